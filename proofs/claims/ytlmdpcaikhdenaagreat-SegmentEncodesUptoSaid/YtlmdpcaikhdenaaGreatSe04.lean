/- Texts of this claim, one behind the other: Dk8, Dk9, SgB. -/
import Derived.Test.YtlmdpcaikhdenaaGreatSe03
import Derived.Laws.CopyOwn
import Derived.Deep.OwnRows
import Derived.Lib.SliceRun
import Derived.StillTailTactics
import Derived.Test.YtlmdpcaikhdenaaGreatSe01
import Derived.Test.YtlmdpcaikhdenaaGreatSe02
import Derived.Laws.BitsAllLaws
set_option linter.unusedSimpArgs false
set_option linter.unusedVariables false
/- Disk: how many bytes the named files have. -/
namespace Go.Proofs.YtlmdpcaikhdenaaGreat
open Go.RowKit Go.Maps

def sumOf (f : Nat → Nat) (l : NL) (left : Lit → Bool) : Nat := ((l.filter fun p => !left (.string p.1)).map fun p => f p.2).sum
theorem sumOf_start (f : Nat → Nat) (l : NL) : sumOf f l (has (nameD l)) = 0 := by
  unfold sumOf
  have : (l.filter fun p => !has (nameD l) (.string p.1)) = [] := by
    rw [List.filter_eq_nil_iff]
    intro p hp
    rw [nameD_has]
    unfold nlFind
    have h : (l.find? fun q => q.1 == p.1).isSome := by rw [List.find?_isSome]; exact ⟨p, hp, by simp⟩
    simp [h]
  rw [this]; rfl
theorem sumOf_end (f : Nat → Nat) (l : NL) (left : Lit → Bool) (h : ∀ kl, left kl = false) : sumOf f l left = (l.map fun p => f p.2).sum := by
  unfold sumOf; rw [List.filter_eq_self.2]; intro p _; simp [h]
theorem sumOf_le (f : Nat → Nat) (l : NL) (left : Lit → Bool) (M : Nat) (h : ∀ n, f n ≤ M) : sumOf f l left ≤ l.length * M := by
  unfold sumOf
  induction l with
  | nil => simp
  | cons x r ih =>
    rw [List.filter_cons]
    split
    · simp only [List.map_cons, List.sum_cons, List.length_cons]; have := h x.2; rw [Nat.succ_mul]; omega
    · simp only [List.length_cons]; rw [Nat.succ_mul]; omega
theorem rising_ne {l : NL} (h : Rising l) : l.Pairwise (fun p q => p.1 ≠ q.1) := List.Pairwise.imp (fun {a b} hab e => by rw [e, WideAt.bytes_irrefl] at hab; cases hab) h
theorem sumOf_step (f : Nat → Nat) (l : NL) (left : Lit → Bool) (k : List UInt8) (n : Nat) (hp : l.Pairwise (fun p q => p.1 ≠ q.1)) (hf : nlFind l k = some n) (hl : left (.string k) = true) :
    sumOf f l (fun z => left z && !z.sameKey (.string k)) = sumOf f l left + f n := by
  unfold sumOf
  induction l with
  | nil => simp [nlFind] at hf
  | cons x r ih =>
    obtain ⟨h1, h2⟩ := List.pairwise_cons.1 hp
    have e : (Lit.string x.1).sameKey (.string k) = (x.1 == k) := rfl
    by_cases hx : x.1 = k
    · have hr : (r.filter fun p => !((left (.string p.1)) && !(Lit.string p.1).sameKey (.string k))) = r.filter fun p => !left (.string p.1) := by
        apply List.filter_congr
        intro p hp
        have e2 : (Lit.string p.1).sameKey (.string k) = (p.1 == k) := rfl
        rw [e2]
        have : p.1 ≠ k := fun e3 => h1 p hp (by rw [hx, e3])
        have : (p.1 == k) = false := by simpa using this
        rw [this]; simp
      have ek : (Lit.string k).sameKey (.string k) = true := by rw [same_str]; simp
      have hn : n = x.2 := by unfold nlFind at hf; simp [hx] at hf; exact hf.symm
      simp only [List.filter_cons, hr, hx, hl, ek]
      simp [hn]; omega
    · have hx' : (x.1 == k) = false := by simpa using hx
      have hf' : nlFind r k = some n := by unfold nlFind at hf ⊢; rw [List.find?_cons, hx'] at hf; exact hf
      have := ih h2 hf'
      simp only [List.filter_cons, e, hx', Bool.not_false, Bool.and_true]
      by_cases hlx : left (.string x.1) = true
      · simp only [hlx, Bool.not_true, Bool.false_eq_true, if_false]; exact this
      · have hlx' : left (.string x.1) = false := by simpa using hlx
        simp only [] at this
        simp only [hlx', Bool.not_false, if_true, List.map_cons, List.sum_cons]
        omega
theorem nlFind_mem {l : NL} {k : List UInt8} {n : Nat} (h : nlFind l k = some n) : (k, n) ∈ l := by
  unfold nlFind at h
  obtain ⟨p, hp, rfl⟩ := Option.map_eq_some_iff.1 h
  have h1 := List.mem_of_find?_eq_some hp
  have h2 := List.find?_some hp
  simp at h2
  rw [← h2]; exact h1
theorem find_of_at {l : NL} {k : List UInt8} {c : Int} (h : ∀ zd : DataW Unit, (nameD l).atKey (.string k) zd = .lit (.int .i64 c)) : ∃ n : Nat, nlFind l k = some n ∧ c = (n : Int) := by
  have h1 := h .nil
  rw [nameD_at] at h1
  cases hf : nlFind l k with
  | none => rw [hf] at h1; simp at h1
  | some n => rw [hf] at h1; simp at h1; exact ⟨n, rfl, h1.symm⟩
theorem str_inv {key : Value} {kl : Lit} (h : keyOf Tryz.prog 9 key = some kl) : ∃ x : List UInt8, key = .string ⟨x.toArray⟩ ∧ kl = .string x := by
  cases key <;> simp [keyOf, Tryz.underlying9, mapKey] at h
  rename_i s
  obtain ⟨_, rfl⟩ := h
  exact ⟨s.data.toList, by simp, rfl⟩

theorem DSt.Ok.stands_le {s : DSt} {N : Nat} (h : s.Ok N) (n : Nat) : (s.stands n).length ≤ maxFile := by
  unfold DSt.stands
  rw [List.getD_eq_getElem?_getD]
  cases hg : s.files[n]? with
  | none => simp
  | some d => exact (h.files d (List.mem_of_getElem? hg)).1
theorem stands_of {s : DSt} {n : Nat} {d : List UInt8 × List UInt8} (h : s.files[n]? = some d) : s.stands n = d.1 := by unfold DSt.stands; rw [List.getD_eq_getElem?_getD, h]; rfl
theorem lasts_of {s : DSt} {n : Nat} {d : List UInt8 × List UInt8} (h : s.files[n]? = some d) : s.lasts n = d.2 := by unfold DSt.lasts; rw [List.getD_eq_getElem?_getD, h]; rfl

section
variable {w : World} {p : Nat} {s : DSt} {R : Nat → Prop} {mf mn ms : Nat} {fb : List Nat} {vs vw : Value} {ss : List Value} {ws : List (List Value)} {e : TypeId}
/-- a named file in memory -/
theorem DiskP.at_file (h : DiskP w p s R mf mn ms fb vs vw ss ws e) {n : Nat} (hn : n < s.files.length) (h63 : n < 9223372036854775808) : ∃ b e' vd vs', fb[n]? = some b ∧ w.heap[b]? = some (.cells #[vd, vs'] e' (0, 0)) ∧ BytesIn w R vd (s.stands n) ∧ BytesIn w R vs' (s.lasts n) ∧
    (Instr.lookup 107 (.map (some mf)) (.int .i64 (n : Int)) false).run Tryz.prog w = .ok (.pointer (some ⟨b, 0, none⟩)) w := by
  have hc := h.count
  have hb : n < fb.length := by omega
  obtain ⟨e', vd, vs', h1, h2, h3⟩ := h.file n fb[n] s.files[n] (by simp [hb]) (by simp [hn])
  refine ⟨fb[n], e', vd, vs', by simp [hb], h1, ?_, ?_, look_file h.filesM hb h63⟩
  · rw [stands_of (d := s.files[n]) (by simp [hn])]; exact h2
  · rw [lasts_of (d := s.files[n]) (by simp [hn])]; exact h3
end

set_option maxRecDepth 100000 in
set_option maxHeartbeats 2000000 in
theorem used_any {w : World} {p : Nat} {s : DSt} {R : Nat → Prop} {mf mn ms : Nat} {fb : List Nat} {vs vw : Value} {ss : List Value} {ws : List (List Value)} {e : TypeId} (h : DiskP w p s R mf mn ms fb vs vw ss ws e) {N : Nat} (hok : s.Ok N) (hN : N ≤ maxList) :
    Calls Tryz.prog 242 #[.pointer (some ⟨p, 0, none⟩)] w fun e w' => e = .returned (.int .i64 (s.used : Int)) ∧ Below w.heap.size w w' := by
  have c2 := cell_of_heap h.cells (i := 2) (v := .map (some mn)) (by rfl)
  have hmany := hok.manyNames
  have hmanyf := hok.manyFiles
  have hmx : maxList = 4194304 := rfl
  have hmf : maxFile = 1099511627776 := rfl
  have hbd : ∀ left, sumOf (fun n => (s.stands n).length) s.names left ≤ 4611686018427387904 := fun left => Nat.le_trans (sumOf_le _ _ _ maxFile hok.stands_le) (Nat.le_trans (Nat.mul_le_mul_right _ (Nat.le_trans hmany hN)) (by decide))
  go_enter Tryz.func242, Tryz.ntmps242
  go_wp2_with (first | (at_range; refine wpList_range_own _ rfl _ 109 rfl 9 3 (string_keyed Tryz.underlying9) Tryz.underlying109 (plainElem Tryz.prog 3) mn s.names.length (nameD s.names) rfl h.namesM ?_; intro w0 hrg0 hg0 hs0) | go_in)
  go_frame
  go_loopw [3] (fun v wr => ∃ left cnt, wr.ranges Tryz.prog 9 (plainElem Tryz.prog 3) mn w.heap.size s.names.length (nameD s.names) left cnt ∧ v = .int .i64 (sumOf (fun n => (s.stands n).length) s.names left : Int) ∧ Below w.heap.size w wr) (fun _ wr => wr.rangeLeft mn w.heap.size)
  case atStart => exact ⟨_, _, hrg0, by rw [sumOf_start]; rfl, (Chg.of_grown (O := fun _ => False) hg0 (by simp)).below (fun _ h => h.elim)⟩
  case round =>
    obtain ⟨left, cnt, hrg, rfl, hb⟩ := hrel
    go_wp2_with (at_next; refine wpList_next_ranges _ rfl _ rfl 9 (string_keyed Tryz.underlying9) (plainElem Tryz.prog 3) (fun x : List UInt8 => .string ⟨x.toArray⟩) (Value.int .i64) (fun key kl hkey => by obtain ⟨x, rfl, _⟩ := str_inv hkey; exact ⟨x, rfl⟩) (fun v y hv => by obtain ⟨c, rfl, _⟩ := plainElem_int_inv Tryz.underlying3 hv; exact ⟨c, rfl⟩) mn w.heap.size s.names.length (nameD s.names) left cnt rfl hrg ?_ ?_)
    · intro hc0 hl0
      go_wp2
      go_ret
      refine ⟨?_, hb⟩
      rw [sumOf_end _ _ _ hl0]; rfl
    · intro x c kl y1 y2 w1 cnt1 hkey hlk hv hat hrg1 hlt hg1 hs1 hen
      obtain ⟨x', ex, rfl⟩ := str_inv hkey
      obtain rfl : x = x' := by simpa using ex
      obtain ⟨c', ec, hy, hwc⟩ := plainElem_int_inv Tryz.underlying3 hv
      obtain ⟨rfl, rfl⟩ := Prod.mk.injEq _ _ _ _ ▸ hy
      obtain rfl : c = c' := by simpa using ec
      obtain ⟨n, hf, rfl⟩ := find_of_at hat
      have hn := (hok.names _ (nlFind_mem hf)).1
      have hb1 : Below w.heap.size w w1 := (hb.grown hg1 hb.size (by intro k e; cases e; exact Nat.le_refl _))
      have hD1 := h.grow hb1
      obtain ⟨fbk, e', vd, vs', _, hfh, ⟨da, dc, rfl, _⟩, _, hlf⟩ := hD1.at_file (n := n) hn (by omega)
      have c1 := cell_of_heap hD1.cells (i := 1) (v := .map (some mf)) (by rfl)
      have cf := cell_of_heap hfh (i := 0) (by rfl)
      have hst := sumOf_step (fun n => (s.stands n).length) s.names left x n (rising_ne hok.rising) hf hlk
      have hb1' := hbd left
      have hb2' := hbd (fun z => left z && !z.sameKey (.string x))
      have HST := Lib.hid hst
      rw [hst] at hb2'
      generalize hS : sumOf (fun n => (s.stands n).length) s.names left = S at *
      generalize (s.stands n).length = dl at *
      clear hD1 hfh hst
      go_wp2
      go_roundw
      case rel => exact ⟨_, cnt1, hrg1, by rw [HST.out]; go_num, hb1⟩
      case measure => rw [hrg1.left_eq, hrg.left_eq]; omega

end Go.Proofs.YtlmdpcaikhdenaaGreat
/- Disk: a copy of bytes; what a pending write does to bytes. -/
namespace Go.Proofs.YtlmdpcaikhdenaaGreat
open Go.RowKit Go.Maps

theorem Tryz.info5 : (Tryz.prog.info? 5).map (fun i => (i.zero, i.size, i.bytes)) = some (some (.int .u8 0), 1, 1) := by kernel_rfl

/-- the blocks that are new -/
def NewIn (w w' : World) : Nat → Prop := fun b => w.heap.size ≤ b ∧ b < w'.heap.size
theorem BytesIn.of_owns {w : World} {R : Nat → Prop} {base : Nat} {v : Value} {n : Nat} {l : List UInt8} (h : w.ownsRow base 5 1 v n (l.map bv)) (hR : ∀ b, base ≤ b → b < w.heap.size → R b) : BytesIn w R v l := by
  obtain ⟨a, c, rfl, hr, hl⟩ := RowAt.of_owns h
  have hn : l.length = n := by simpa using hl
  subst hn
  refine ⟨a, c, rfl, ownsRow_len_cap h, ownsRow_cap0 h, hr, fun x hx => ?_, fun x hx => ?_, ownsRow_base_le h (Nat.zero_le _)⟩
  · subst hx
    have := h.lt x.block rfl
    exact hR _ this.1 this.2
  · subst hx
    rcases h.2 with ⟨e, _⟩ | ⟨g, cap, cur, e, _⟩
    · cases e
    · cases e; rfl
theorem BytesIn.row {w : World} {R : Nat → Prop} {v : Value} {l : List UInt8} (h : BytesIn w R v l) : ∃ a c, v = .slice a l.length c ∧ l.length ≤ c ∧ (a = none → c = 0) ∧ RowAt w a (l.map bv) := by
  obtain ⟨a, c, h1, h2, h3, h4, _⟩ := h; exact ⟨a, c, h1, h2, h3, h4⟩

set_option maxRecDepth 100000 in
set_option maxHeartbeats 1000000 in
theorem clone_any (a : Option Addr) (c : Nat) (l : List UInt8) (w : World) (hnil : a = none → c = 0) (hrow : RowAt w a (l.map bv)) (hl : l.length ≤ 140737488355328) :
    Calls Tryz.prog 70 #[.slice a l.length c] w fun e w' => ∃ v, e = .returned v ∧ BytesIn w' (NewIn w w') v l ∧ Below w.heap.size w w' := by
  obtain ⟨i0, hi, hz0, hz1, hz2⟩ := info_parts Tryz.info5
  have hq : ∀ (w : World) (a : Option Addr) (n c n' c' : Nat), (binOp .eql 26 (.slice a n c) (.slice none n' c')).run Tryz.prog w = .ok (.bool a.isNone) w := fun w a n c n' c' => Lib.run_eql_slice_nil w _ _ a n c n' c' Tryz.underlying26
  cases a with
  | none =>
    obtain rfl := hnil rfl
    have hl0 : l = [] := by
      by_cases h : l = []
      · exact h
      · obtain ⟨b, off, e, _⟩ := hrow (by simpa using h); cases e
    subst hl0
    go_enter Tryz.func70, Tryz.ntmps70
    go_wp2
    go_ret
    exact ⟨_, rfl, BytesIn.nil _ _, Below.refl _ _⟩
  | some x =>
    have hm : maxLen = 9223372036854775807 := rfl
    go_enter Tryz.func70, Tryz.ntmps70
    go_wp2_with (at_builtin; go_loud (refine wpList_append_any _ rfl (.tmp 5) (.tmp 6) 26 rfl w.heap.size 5 i0 (.int .u8 0) 1 Tryz.underlying26 hi hz0 hz1 hz2 rfl _ 0 [] rfl (World.ownsRow_made w #[] 0 (Nat.le_refl _) (Nat.zero_le _) (by simp)) (some x) l.length c (l.map bv) rfl (by simp) hnil (hrow.below (below_alloc w _)) (by intro u hu; obtain ⟨_, _, rfl⟩ := List.mem_map.1 hu; rfl) (by omega) (by omega) (by rw [World.size_alloc]; omega) ?_))
    intro v1 w1 hown1 hg1
    have hown1 : w1.ownsRow w.heap.size 5 1 v1 l.length (l.map bv) := by simpa using hown1
    have hb : Below w.heap.size w w1 := (below_alloc w _).grown hg1 (by rw [World.size_alloc]; omega) (by intro k hk; simp [Value.ownBlock] at hk; omega)
    obtain ⟨sa, sc, rfl, _, _⟩ := RowAt.of_owns hown1
    go_wp2
    go_ret
    exact ⟨_, rfl, BytesIn.of_owns hown1 (fun b h1 h2 => ⟨h1, h2⟩), hb⟩

end Go.Proofs.YtlmdpcaikhdenaaGreat
/- Wire: width, form, number, Left. -/
namespace Go.Proofs.YtlmdpcaikhdenaaGreat
open Go.RowKit Go.Maps

theorem run_slice_lh' {P : Program} (t e : TypeId) (ht : P.underlying t = some (.slice e)) (he : ∀ w, (sizeOf e).run P w = Result.ok 1 w) (a : Option Addr) (len cap l h : Nat) (hl : l ≤ h) (hh : h ≤ cap) (w : World) :
    (Instr.slice t (.slice a len cap) (some (.int .i64 l)) (some (.int .i64 (h : Int))) none).run P w = Result.ok (.slice (subAt a cap l) (h - l) (cap - l)) w := by
  have he' : P.elem t = e := by simp [Program.elem, ht]
  rw [run_slice_lh (t := t) (ht := by rw [he']; exact ht) (kl := .i64) (kh := .i64) (h0 := by omega) (h1 := by omega) (h2 := by omega), he', he]
  simp [Result.andThen, sliced, subAt]
/-! ### how many bytes a number has -/
set_option maxHeartbeats 1000000 in
theorem width8_any (w : World) : Calls Tryz.prog 156 #[] w fun e w' => e = .returned (.int .i64 1) ∧ w = w' := by
  go_enter Tryz.func156, Tryz.ntmps156
  go_wp2
  go_loop [1, 2] (fun n t => (n = .int .i64 0 ∧ t = .int .u64 255) ∨ (n = .int .i64 1 ∧ t = .int .u64 0)) (fun n _ => 1 - (intOf n).toNat)
  case atStart => exact .inl ⟨rfl, rfl⟩
  case round =>
    rcases hrel with ⟨rfl, rfl⟩ | ⟨rfl, rfl⟩
    · go_wp2
      go_round
      case rel => simp
      case measure => simp [intOf]
    · go_wp2
      go_ret
      exact ⟨rfl, rfl⟩
set_option maxHeartbeats 1000000 in
theorem width32_any (w : World) : Calls Tryz.prog 161 #[] w fun e w' => e = .returned (.int .i64 4) ∧ w = w' := by
  go_enter Tryz.func161, Tryz.ntmps161
  go_wp2
  go_loop [1, 2] (fun n t => (n = .int .i64 0 ∧ t = .int .u64 4294967295) ∨ (n = .int .i64 1 ∧ t = .int .u64 16777215) ∨ (n = .int .i64 2 ∧ t = .int .u64 65535) ∨ (n = .int .i64 3 ∧ t = .int .u64 255) ∨ (n = .int .i64 4 ∧ t = .int .u64 0)) (fun n _ => 4 - (intOf n).toNat)
  case atStart => exact .inl ⟨rfl, rfl⟩
  case round =>
    rcases hrel with ⟨rfl, rfl⟩ | ⟨rfl, rfl⟩ | ⟨rfl, rfl⟩ | ⟨rfl, rfl⟩ | ⟨rfl, rfl⟩
    iterate 4
      · go_wp2
        go_round
        case rel => simp
        case measure => simp [intOf]
    · go_wp2
      go_ret
      exact ⟨rfl, rfl⟩
set_option maxHeartbeats 2000000 in
theorem width64_any (w : World) : Calls Tryz.prog 163 #[] w fun e w' => e = .returned (.int .i64 8) ∧ w = w' := by
  go_enter Tryz.func163, Tryz.ntmps163
  go_wp2
  go_loop [1, 2] (fun n t => (n = .int .i64 0 ∧ t = .int .u64 18446744073709551615) ∨ (n = .int .i64 1 ∧ t = .int .u64 72057594037927935) ∨ (n = .int .i64 2 ∧ t = .int .u64 281474976710655) ∨ (n = .int .i64 3 ∧ t = .int .u64 1099511627775) ∨ (n = .int .i64 4 ∧ t = .int .u64 4294967295) ∨ (n = .int .i64 5 ∧ t = .int .u64 16777215) ∨ (n = .int .i64 6 ∧ t = .int .u64 65535) ∨ (n = .int .i64 7 ∧ t = .int .u64 255) ∨ (n = .int .i64 8 ∧ t = .int .u64 0)) (fun n _ => 8 - (intOf n).toNat)
  case atStart => exact .inl ⟨rfl, rfl⟩
  case round =>
    rcases hrel with ⟨rfl, rfl⟩ | ⟨rfl, rfl⟩ | ⟨rfl, rfl⟩ | ⟨rfl, rfl⟩ | ⟨rfl, rfl⟩ | ⟨rfl, rfl⟩ | ⟨rfl, rfl⟩ | ⟨rfl, rfl⟩ | ⟨rfl, rfl⟩
    iterate 8
      · go_wp2
        go_round
        case rel => simp
        case measure => simp [intOf]
    · go_wp2
      go_ret
      exact ⟨rfl, rfl⟩

/-! ### a number behind bytes -/
theorem be_get (w x i : Nat) (h : i < w) : (be w x)[i]? = some (UInt8.ofNat (x / 256 ^ (w - 1 - i))) := by
  induction w generalizing x with
  | zero => omega
  | succ w ih =>
    rw [be]
    by_cases hi : i < w
    · rw [List.getElem?_append_left (by rw [be_len]; exact hi), ih _ hi, Nat.div_div_eq_div_mul, show w + 1 - 1 - i = (w - 1 - i) + 1 from by omega, Nat.pow_succ, Nat.mul_comm]
    · obtain rfl : i = w := by omega
      rw [List.getElem?_append_right (by rw [be_len]; exact Nat.le_refl _), be_len]
      simp
theorem be_take_succ (w x j : Nat) (h : j < w) : (be w x).take (j + 1) = (be w x).take j ++ [UInt8.ofNat (x / 256 ^ (w - 1 - j))] := by
  rw [List.take_add_one, be_get w x j h]
  rfl
theorem bv_of (x k : Nat) : bv (UInt8.ofNat (x / 256 ^ k)) = .int .u8 (((x / 256 ^ k : Nat) : Int) % 256) := by
  unfold bv
  rw [UInt8.toNat_ofNat']
  simp
/-- append of one-cell elements out of whatever slice, and where the row lies then -/
theorem wpList_append_src_at {P : Program} (w : World) {ops : Array Oper} {rest : List Oper} {o : Oper} {a : Act} {Q : Exit → Act → World → Prop} (hgd : o.guard = none) (s x : Operand) (t : TypeId)
    (ho : o.op = .call { callee := .builtin .append, args := #[s, x], argTypes := #[t, t] })
    (base : Nat) (e : TypeId) (i : TypeInfo) (z : Value) (bytes : Nat) (ht : P.underlying t = some (.slice e)) (hi : P.info? e = some i) (hz : i.zero = some z)
    (hsize : i.size = 1) (hby : i.bytes = bytes) (hzs : z.cells.size = 1)
    (v : Value) (n : Nat) (xs : List Value) (hs : a.eval s = v) (hown : w.ownsRow base e 1 v n xs)
    (sa : Option Addr) (m c : Nat) (news : List Value) (hx : a.eval x = .slice sa m c) (hl : news.length = m) (hnil : sa = none → c = 0) (hnews : RowAt w sa news) (h1 : ∀ u ∈ news, u.oneCell' = true)
    (h63 : n + m ≤ maxLen) (hbytes : (n + m) * bytes ≤ 140737488355328) (hbase : base ≤ w.heap.size)
    (h : ∀ v' w', w'.ownsRow base e 1 v' (n + m) (xs ++ news) → w.grownBy w' v.ownBlock → (v'.ownBlock = v.ownBlock ∨ v'.ownBlock = some w.heap.size) → wpList P ops Q rest (a.put o.dst v') w') : wpList P ops Q (o :: rest) a w := by
  cases sa with
  | none =>
    have hn : news = [] := by
      by_cases hne : news = []
      · exact hne
      · obtain ⟨b, off, e, _⟩ := hnews hne; cases e
    subst hn
    obtain rfl : m = 0 := by simpa using hl.symm
    obtain rfl : c = 0 := hnil rfl
    refine wpList_append_own_none hgd s x t ho base e i 1 ht hi v n xs hs hown hx ?_
    exact h v w (by simpa using hown) ⟨rfl, rfl, rfl, Nat.le_refl _, fun _ _ _ => rfl⟩ (.inl rfl)
  | some ad =>
    refine wpList_append_own_at w hgd s x t ho base e i z 1 bytes ht hi hz hsize hby hzs (by decide) v n xs hs hown ad m c news hx (by omega) ?_ h1 h63 hbytes hbase (fun v' w' h2 h3 _ h5 => h v' w' h2 h3 h5)
    intro j u hu
    have hne : news ≠ [] := by intro e; subst e; simp at hu
    obtain ⟨b, off, e, hc⟩ := hnews hne
    cases e
    have := hc j u hu
    rwa [show (⟨b, off, none⟩ : Addr).add j = ⟨b, off + j, none⟩ from by unfold Addr.add; split <;> simp_all]
/-- a row that was handed on: its blocks -/
def Grew (v : Value) (w : World) (v' : Value) (w' : World) : Prop := Chg (fun b => v.ownBlock = some b) w w' ∧ (v'.ownBlock = v.ownBlock ∨ ∃ g, v'.ownBlock = some g ∧ w.heap.size ≤ g)
theorem Grew.refl (v : Value) (w : World) : Grew v w v w := ⟨Chg.refl _ _, .inl rfl⟩
theorem Grew.trans {v v' v'' : Value} {w w' w'' : World} (h : Grew v w v' w') (k : Grew v' w' v'' w'') : Grew v w v'' w'' := by
  obtain ⟨h1, h2⟩ := h
  obtain ⟨k1, k2⟩ := k
  have hs := h1.size
  refine ⟨h1.trans k1 (fun b hb hlt => ?_), ?_⟩
  · rcases h2 with h2 | ⟨g, h2, h3⟩
    · rw [← h2]; exact hb
    · rw [h2] at hb; cases hb; omega
  · rcases k2 with k2 | ⟨g, k2, k3⟩
    · rw [k2]; exact h2
    · exact .inr ⟨g, k2, by omega⟩
theorem Grew.alloc (v : Value) (w : World) (o : Obj) : Grew v w v (w.alloc o) := ⟨Chg.alloc _ _ _, .inl rfl⟩
theorem Grew.append {v v' : Value} {w w' : World} (hg : w.grownBy w' v.ownBlock) (h : v'.ownBlock = v.ownBlock ∨ v'.ownBlock = some w.heap.size) : Grew v w v' w' :=
  ⟨Chg.of_grown hg (fun _ e _ => e), h.imp id (fun e => ⟨_, e, Nat.le_refl _⟩)⟩
set_option maxRecDepth 100000 in
set_option maxHeartbeats 4000000 in
theorem form_any {w : World} {v : Value} {n : Nat} {xs : List Value} (h : w.ownsRow 0 5 1 v n xs) (hn : n ≤ 140737488355000) {k : Nat} (hk : k ≤ 8) {x : Nat} (hx : x < 18446744073709551616) :
    Calls Tryz.prog 155 #[v, .int .i64 (k : Int), .int .u64 (x : Int)] w fun e w' => ∃ v', e = .returned v' ∧ w'.ownsRow 0 5 1 v' (n + k) (xs ++ (be k x).map bv) ∧ Grew v w v' w' := by
  have hmax : maxLen = 9223372036854775807 := rfl
  obtain ⟨i0, hi, hz0, hz1, hz2⟩ := info_parts Tryz.info5
  have HX := Lib.hid hx
  clear hx
  go_enter Tryz.func155, Tryz.ntmps155
  go_wp2
  go_loopw [0, 7] (fun b i wr => ∃ (j : Nat) (i' : Int), j ≤ k ∧ i = .int .i64 i' ∧ i' = (k : Int) - 1 - j ∧ wr.ownsRow 0 5 1 b (n + j) (xs ++ ((be k x).take j).map bv) ∧ Grew v w b wr) (fun _ i _ => (intOf i + 1).toNat)
  case atStart => exact ⟨0, _, Nat.zero_le _, rfl, by omega, by simpa using h, Grew.refl _ _⟩
  case round =>
    obtain ⟨j, i', hj, rfl, hi', hrow, hgw⟩ := hrel
    by_cases hlt : j < k
    · obtain ⟨m, rfl⟩ : ∃ m : Nat, i' = (m : Int) := ⟨k - 1 - j, by omega⟩
      have hm : m = k - 1 - j := by omega
      have hm8 : m = 0 ∨ m = 1 ∨ m = 2 ∨ m = 3 ∨ m = 4 ∨ m = 5 ∨ m = 6 ∨ m = 7 := by omega
      have hbt := be_take_succ k x j hlt
      rw [← hm] at hbt
      have hx0 : (0 : Int) ≤ (x : Int) := by omega
      have hws := hgw.1.size
      have HB := Lib.hid hbt
      have HM := Lib.hid hm
      have HI := Lib.hid hi'
      clear hbt hm hi'
      rcases hm8 with rfl | rfl | rfl | rfl | rfl | rfl | rfl | rfl
      · have hbv : bv (UInt8.ofNat (x / 256 ^ 0)) = .int .u8 ((x : Int) % 256) := by rw [bv_of]; simp
        have HV := Lib.hid hbv
        clear hbv
        go_wp2_with (at_builtin; refine wpList_append_src_at _ rfl (.tmp 14) (.tmp 20) 26 rfl 0 5 i0 (.int .u8 0) 1 Tryz.underlying26 hi hz0 hz1 hz2 rfl _ _ _ rfl (hrow.alloc _) (some ⟨wr.heap.size, 0, none⟩) 1 1 [.int .u8 ((x : Int) % 256)] rfl rfl (fun h => by cases h) (RowAt.of_row (fun j u hu => cell_new wr _ _ j u (by simpa using hu))) (by simp [Value.oneCell']) (by omega) (by omega) (Nat.zero_le _) ?_; intro v' w1 hown' hgrow hat)
        go_roundw
        case rel => exact ⟨j + 1, _, by omega, rfl, by have := HI.out; omega, by rw [HB.out, List.map_append, ← List.append_assoc, List.map_singleton, HV.out]; exact hown', hgw.trans ((Grew.alloc _ _ _).trans (Grew.append hgrow hat))⟩
        case measure => simp [intOf]
      · have hbv : bv (UInt8.ofNat (x / 256 ^ 1)) = .int .u8 ((x : Int) / 256 % 256) := by rw [bv_of]; simp
        have HV := Lib.hid hbv
        clear hbv
        go_wp2_with (at_builtin; refine wpList_append_src_at _ rfl (.tmp 14) (.tmp 20) 26 rfl 0 5 i0 (.int .u8 0) 1 Tryz.underlying26 hi hz0 hz1 hz2 rfl _ _ _ rfl (hrow.alloc _) (some ⟨wr.heap.size, 0, none⟩) 1 1 [.int .u8 ((x : Int) / 256 % 256)] rfl rfl (fun h => by cases h) (RowAt.of_row (fun j u hu => cell_new wr _ _ j u (by simpa using hu))) (by simp [Value.oneCell']) (by omega) (by omega) (Nat.zero_le _) ?_; intro v' w1 hown' hgrow hat)
        go_roundw
        case rel => exact ⟨j + 1, _, by omega, rfl, by have := HI.out; omega, by rw [HB.out, List.map_append, ← List.append_assoc, List.map_singleton, HV.out]; exact hown', hgw.trans ((Grew.alloc _ _ _).trans (Grew.append hgrow hat))⟩
        case measure => simp [intOf]
      · have hbv : bv (UInt8.ofNat (x / 256 ^ 2)) = .int .u8 ((x : Int) / 65536 % 256) := by rw [bv_of]; simp
        have HV := Lib.hid hbv
        clear hbv
        go_wp2_with (at_builtin; refine wpList_append_src_at _ rfl (.tmp 14) (.tmp 20) 26 rfl 0 5 i0 (.int .u8 0) 1 Tryz.underlying26 hi hz0 hz1 hz2 rfl _ _ _ rfl (hrow.alloc _) (some ⟨wr.heap.size, 0, none⟩) 1 1 [.int .u8 ((x : Int) / 65536 % 256)] rfl rfl (fun h => by cases h) (RowAt.of_row (fun j u hu => cell_new wr _ _ j u (by simpa using hu))) (by simp [Value.oneCell']) (by omega) (by omega) (Nat.zero_le _) ?_; intro v' w1 hown' hgrow hat)
        go_roundw
        case rel => exact ⟨j + 1, _, by omega, rfl, by have := HI.out; omega, by rw [HB.out, List.map_append, ← List.append_assoc, List.map_singleton, HV.out]; exact hown', hgw.trans ((Grew.alloc _ _ _).trans (Grew.append hgrow hat))⟩
        case measure => simp [intOf]
      · have hbv : bv (UInt8.ofNat (x / 256 ^ 3)) = .int .u8 ((x : Int) / 16777216 % 256) := by rw [bv_of]; simp
        have HV := Lib.hid hbv
        clear hbv
        go_wp2_with (at_builtin; refine wpList_append_src_at _ rfl (.tmp 14) (.tmp 20) 26 rfl 0 5 i0 (.int .u8 0) 1 Tryz.underlying26 hi hz0 hz1 hz2 rfl _ _ _ rfl (hrow.alloc _) (some ⟨wr.heap.size, 0, none⟩) 1 1 [.int .u8 ((x : Int) / 16777216 % 256)] rfl rfl (fun h => by cases h) (RowAt.of_row (fun j u hu => cell_new wr _ _ j u (by simpa using hu))) (by simp [Value.oneCell']) (by omega) (by omega) (Nat.zero_le _) ?_; intro v' w1 hown' hgrow hat)
        go_roundw
        case rel => exact ⟨j + 1, _, by omega, rfl, by have := HI.out; omega, by rw [HB.out, List.map_append, ← List.append_assoc, List.map_singleton, HV.out]; exact hown', hgw.trans ((Grew.alloc _ _ _).trans (Grew.append hgrow hat))⟩
        case measure => simp [intOf]
      · have hbv : bv (UInt8.ofNat (x / 256 ^ 4)) = .int .u8 ((x : Int) / 4294967296 % 256) := by rw [bv_of]; simp
        have HV := Lib.hid hbv
        clear hbv
        go_wp2_with (at_builtin; refine wpList_append_src_at _ rfl (.tmp 14) (.tmp 20) 26 rfl 0 5 i0 (.int .u8 0) 1 Tryz.underlying26 hi hz0 hz1 hz2 rfl _ _ _ rfl (hrow.alloc _) (some ⟨wr.heap.size, 0, none⟩) 1 1 [.int .u8 ((x : Int) / 4294967296 % 256)] rfl rfl (fun h => by cases h) (RowAt.of_row (fun j u hu => cell_new wr _ _ j u (by simpa using hu))) (by simp [Value.oneCell']) (by omega) (by omega) (Nat.zero_le _) ?_; intro v' w1 hown' hgrow hat)
        go_roundw
        case rel => exact ⟨j + 1, _, by omega, rfl, by have := HI.out; omega, by rw [HB.out, List.map_append, ← List.append_assoc, List.map_singleton, HV.out]; exact hown', hgw.trans ((Grew.alloc _ _ _).trans (Grew.append hgrow hat))⟩
        case measure => simp [intOf]
      · have hbv : bv (UInt8.ofNat (x / 256 ^ 5)) = .int .u8 ((x : Int) / 1099511627776 % 256) := by rw [bv_of]; simp
        have HV := Lib.hid hbv
        clear hbv
        go_wp2_with (at_builtin; refine wpList_append_src_at _ rfl (.tmp 14) (.tmp 20) 26 rfl 0 5 i0 (.int .u8 0) 1 Tryz.underlying26 hi hz0 hz1 hz2 rfl _ _ _ rfl (hrow.alloc _) (some ⟨wr.heap.size, 0, none⟩) 1 1 [.int .u8 ((x : Int) / 1099511627776 % 256)] rfl rfl (fun h => by cases h) (RowAt.of_row (fun j u hu => cell_new wr _ _ j u (by simpa using hu))) (by simp [Value.oneCell']) (by omega) (by omega) (Nat.zero_le _) ?_; intro v' w1 hown' hgrow hat)
        go_roundw
        case rel => exact ⟨j + 1, _, by omega, rfl, by have := HI.out; omega, by rw [HB.out, List.map_append, ← List.append_assoc, List.map_singleton, HV.out]; exact hown', hgw.trans ((Grew.alloc _ _ _).trans (Grew.append hgrow hat))⟩
        case measure => simp [intOf]
      · have hbv : bv (UInt8.ofNat (x / 256 ^ 6)) = .int .u8 ((x : Int) / 281474976710656 % 256) := by rw [bv_of]; simp
        have HV := Lib.hid hbv
        clear hbv
        go_wp2_with (at_builtin; refine wpList_append_src_at _ rfl (.tmp 14) (.tmp 20) 26 rfl 0 5 i0 (.int .u8 0) 1 Tryz.underlying26 hi hz0 hz1 hz2 rfl _ _ _ rfl (hrow.alloc _) (some ⟨wr.heap.size, 0, none⟩) 1 1 [.int .u8 ((x : Int) / 281474976710656 % 256)] rfl rfl (fun h => by cases h) (RowAt.of_row (fun j u hu => cell_new wr _ _ j u (by simpa using hu))) (by simp [Value.oneCell']) (by omega) (by omega) (Nat.zero_le _) ?_; intro v' w1 hown' hgrow hat)
        go_roundw
        case rel => exact ⟨j + 1, _, by omega, rfl, by have := HI.out; omega, by rw [HB.out, List.map_append, ← List.append_assoc, List.map_singleton, HV.out]; exact hown', hgw.trans ((Grew.alloc _ _ _).trans (Grew.append hgrow hat))⟩
        case measure => simp [intOf]
      · have hbv : bv (UInt8.ofNat (x / 256 ^ 7)) = .int .u8 ((x : Int) / 72057594037927936 % 256) := by rw [bv_of]; simp
        have HV := Lib.hid hbv
        clear hbv
        go_wp2_with (at_builtin; refine wpList_append_src_at _ rfl (.tmp 14) (.tmp 20) 26 rfl 0 5 i0 (.int .u8 0) 1 Tryz.underlying26 hi hz0 hz1 hz2 rfl _ _ _ rfl (hrow.alloc _) (some ⟨wr.heap.size, 0, none⟩) 1 1 [.int .u8 ((x : Int) / 72057594037927936 % 256)] rfl rfl (fun h => by cases h) (RowAt.of_row (fun j u hu => cell_new wr _ _ j u (by simpa using hu))) (by simp [Value.oneCell']) (by omega) (by omega) (Nat.zero_le _) ?_; intro v' w1 hown' hgrow hat)
        go_roundw
        case rel => exact ⟨j + 1, _, by omega, rfl, by have := HI.out; omega, by rw [HB.out, List.map_append, ← List.append_assoc, List.map_singleton, HV.out]; exact hown', hgw.trans ((Grew.alloc _ _ _).trans (Grew.append hgrow hat))⟩
        case measure => simp [intOf]
    · obtain rfl : j = k := by omega
      have hneg : i' < 0 := by omega
      have hg : decide (0 ≤ i') = false := by simp; omega
      rw [List.take_of_length_le (by rw [be_len]; exact Nat.le_refl _)] at hrow
      clear hi'
      go_wp2
      go_ret
      exact ⟨_, rfl, hrow, hgw⟩
theorem or_byte (x : Nat) (c : UInt8) (hx : x < 72057594037927936) : bits .or .u64 (((x * 256 : Nat) : Int)) (c.toNat : Int) = ((x * 256 + c.toNat : Nat) : Int) := by
  have hc := c.toNat_lt
  rw [u64_or_nat _ _ (by omega) (by omega), nat_join 8 (x * 256) c.toNat (by omega) (by omega)]
set_option maxRecDepth 100000 in
set_option maxHeartbeats 2000000 in
theorem number_any {w : World} {a : Option Addr} {c : Nat} {l : List UInt8} (hrow : RowAt w a (l.map bv)) (hl : l.length ≤ 8) :
    Calls Tryz.prog 127 #[.slice a l.length c] w fun e w' => e = .returned (.int .u64 (unbe l : Int)) ∧ w = w' := by
  go_enter Tryz.func127, Tryz.ntmps127
  go_wp2
  go_loop [3, 8] (fun x i => ∃ j : Nat, j ≤ l.length ∧ i = .int .i64 j ∧ x = .int .u64 (unbe (l.take j) : Int)) (fun _ i => l.length - (intOf i).toNat)
  case atStart => exact ⟨0, Nat.zero_le _, rfl, rfl⟩
  case round =>
    obtain ⟨j, hj, rfl, rfl⟩ := hrel
    by_cases hlt : j < l.length
    · obtain ⟨b, off, rfl, hc⟩ := hrow.at_ (k := j) (by simpa using hlt)
      have hu := unbe_lt (l.take j)
      have hux : unbe (l.take j) < 72057594037927936 := by
        have h1 : (l.take j).length ≤ 7 := by rw [List.length_take]; omega
        have h2 : 256 ^ (l.take j).length ≤ 256 ^ 7 := Nat.pow_le_pow_right (by omega) h1
        have h3 : 256 ^ 7 = 72057594037927936 := by decide
        omega
      have hor := or_byte _ (l[j]) hux
      have hts : l.take (j + 1) = l.take j ++ [l[j]] := by rw [List.take_add_one, List.getElem?_eq_getElem hlt]; rfl
      have hun : unbe (l.take (j + 1)) = unbe (l.take j) * 256 + (l[j]).toNat := by rw [hts, unbe_snoc]
      obtain ⟨y, hy⟩ : ∃ y, unbe (l.take j) = y := ⟨_, rfl⟩
      obtain ⟨d, hd⟩ : ∃ d, l[j] = d := ⟨_, rfl⟩
      rw [hy] at hor hux hun ⊢
      rw [hd] at hor hun
      rw [List.getElem_map, hd] at hc
      unfold bv at hc
      have hd0 := d.toNat_lt
      have hor : bits .or .u64 ((y : Int) * 256) (d.toNat : Int) = ((y * 256 + d.toNat : Nat) : Int) := by rw [← hor]; push_cast; rfl
      have HU := Lib.hid hun
      have HO := Lib.hid hor
      clear hun hts hy hd hu hor
      go_wp2
      exact ⟨⟨j + 1, by omega, by go_num, by rw [HU.out, HO.out]⟩, by simp [intOf]; omega⟩
    · obtain rfl : j = l.length := by omega
      rw [List.take_length]
      go_wp2
      go_ret
      exact ⟨rfl, rfl⟩

end Go.Proofs.YtlmdpcaikhdenaaGreat
