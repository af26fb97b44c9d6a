/- Texts of this claim, one behind the other: Dk8, Dk9, DkA, DkB. -/
import Derived.Test.YtehmnmpkfbginaaGreatFc04
import Derived.Laws.CopyOwn
import Derived.Deep.OwnRows
import Derived.Lib.SliceRun
import Derived.StillTailTactics
set_option linter.unusedSimpArgs false
set_option linter.unusedVariables false
/- Disk: how many bytes the named files have. -/
namespace Go.Proofs.YtehmnmpkfbginaaGreat
open Go.RowKit Go.Maps

def sumOf (f : Nat → Nat) (l : NL) (left : Lit → Bool) : Nat := ((l.filter fun p => !left (.string p.1)).map fun p => f p.2).sum
theorem sumOf_start (f : Nat → Nat) (l : NL) : sumOf f l (has (nameD l)) = 0 := by
  unfold sumOf
  have : (l.filter fun p => !has (nameD l) (.string p.1)) = [] := by
    rw [List.filter_eq_nil_iff]
    intro p hp
    rw [nameD_has]
    unfold nlFind
    have h : (l.find? fun q => q.1 == p.1).isSome := by rw [List.find?_isSome]; exact ⟨p, hp, by simp⟩
    simp [h]
  rw [this]; rfl
theorem sumOf_end (f : Nat → Nat) (l : NL) (left : Lit → Bool) (h : ∀ kl, left kl = false) : sumOf f l left = (l.map fun p => f p.2).sum := by
  unfold sumOf; rw [List.filter_eq_self.2]; intro p _; simp [h]
theorem sumOf_le (f : Nat → Nat) (l : NL) (left : Lit → Bool) (M : Nat) (h : ∀ n, f n ≤ M) : sumOf f l left ≤ l.length * M := by
  unfold sumOf
  induction l with
  | nil => simp
  | cons x r ih =>
    rw [List.filter_cons]
    split
    · simp only [List.map_cons, List.sum_cons, List.length_cons]; have := h x.2; rw [Nat.succ_mul]; omega
    · simp only [List.length_cons]; rw [Nat.succ_mul]; omega
theorem rising_ne {l : NL} (h : Rising l) : l.Pairwise (fun p q => p.1 ≠ q.1) := List.Pairwise.imp (fun {a b} hab e => by rw [e, WideAt.bytes_irrefl] at hab; cases hab) h
theorem sumOf_step (f : Nat → Nat) (l : NL) (left : Lit → Bool) (k : List UInt8) (n : Nat) (hp : l.Pairwise (fun p q => p.1 ≠ q.1)) (hf : nlFind l k = some n) (hl : left (.string k) = true) :
    sumOf f l (fun z => left z && !z.sameKey (.string k)) = sumOf f l left + f n := by
  unfold sumOf
  induction l with
  | nil => simp [nlFind] at hf
  | cons x r ih =>
    obtain ⟨h1, h2⟩ := List.pairwise_cons.1 hp
    have e : (Lit.string x.1).sameKey (.string k) = (x.1 == k) := rfl
    by_cases hx : x.1 = k
    · have hr : (r.filter fun p => !((left (.string p.1)) && !(Lit.string p.1).sameKey (.string k))) = r.filter fun p => !left (.string p.1) := by
        apply List.filter_congr
        intro p hp
        have e2 : (Lit.string p.1).sameKey (.string k) = (p.1 == k) := rfl
        rw [e2]
        have : p.1 ≠ k := fun e3 => h1 p hp (by rw [hx, e3])
        have : (p.1 == k) = false := by simpa using this
        rw [this]; simp
      have ek : (Lit.string k).sameKey (.string k) = true := by rw [same_str]; simp
      have hn : n = x.2 := by unfold nlFind at hf; simp [hx] at hf; exact hf.symm
      simp only [List.filter_cons, hr, hx, hl, ek]
      simp [hn]; omega
    · have hx' : (x.1 == k) = false := by simpa using hx
      have hf' : nlFind r k = some n := by unfold nlFind at hf ⊢; rw [List.find?_cons, hx'] at hf; exact hf
      have := ih h2 hf'
      simp only [List.filter_cons, e, hx', Bool.not_false, Bool.and_true]
      by_cases hlx : left (.string x.1) = true
      · simp only [hlx, Bool.not_true, Bool.false_eq_true, if_false]; exact this
      · have hlx' : left (.string x.1) = false := by simpa using hlx
        simp only [] at this
        simp only [hlx', Bool.not_false, if_true, List.map_cons, List.sum_cons]
        omega
theorem nlFind_mem {l : NL} {k : List UInt8} {n : Nat} (h : nlFind l k = some n) : (k, n) ∈ l := by
  unfold nlFind at h
  obtain ⟨p, hp, rfl⟩ := Option.map_eq_some_iff.1 h
  have h1 := List.mem_of_find?_eq_some hp
  have h2 := List.find?_some hp
  simp at h2
  rw [← h2]; exact h1
theorem find_of_at {l : NL} {k : List UInt8} {c : Int} (h : ∀ zd : DataW Unit, (nameD l).atKey (.string k) zd = .lit (.int .i64 c)) : ∃ n : Nat, nlFind l k = some n ∧ c = (n : Int) := by
  have h1 := h .nil
  rw [nameD_at] at h1
  cases hf : nlFind l k with
  | none => rw [hf] at h1; simp at h1
  | some n => rw [hf] at h1; simp at h1; exact ⟨n, rfl, h1.symm⟩
theorem str_inv {key : Value} {kl : Lit} (h : keyOf Tryz.prog 9 key = some kl) : ∃ x : List UInt8, key = .string ⟨x.toArray⟩ ∧ kl = .string x := by
  cases key <;> simp [keyOf, Tryz.underlying9, mapKey] at h
  rename_i s
  obtain ⟨_, rfl⟩ := h
  exact ⟨s.data.toList, by simp, rfl⟩

theorem DSt.Ok.stands_le {s : DSt} {N : Nat} (h : s.Ok N) (n : Nat) : (s.stands n).length ≤ maxFile := by
  unfold DSt.stands
  rw [List.getD_eq_getElem?_getD]
  cases hg : s.files[n]? with
  | none => simp
  | some d => exact (h.files d (List.mem_of_getElem? hg)).1
theorem stands_of {s : DSt} {n : Nat} {d : List UInt8 × List UInt8} (h : s.files[n]? = some d) : s.stands n = d.1 := by unfold DSt.stands; rw [List.getD_eq_getElem?_getD, h]; rfl
theorem lasts_of {s : DSt} {n : Nat} {d : List UInt8 × List UInt8} (h : s.files[n]? = some d) : s.lasts n = d.2 := by unfold DSt.lasts; rw [List.getD_eq_getElem?_getD, h]; rfl

section
variable {w : World} {p : Nat} {s : DSt} {R : Nat → Prop} {mf mn ms : Nat} {fb : List Nat} {vs vw : Value} {ss : List Value} {ws : List (List Value)} {e : TypeId}
/-- a named file in memory -/
theorem DiskP.at_file (h : DiskP w p s R mf mn ms fb vs vw ss ws e) {n : Nat} (hn : n < s.files.length) (h63 : n < 9223372036854775808) : ∃ b e' vd vs', fb[n]? = some b ∧ w.heap[b]? = some (.cells #[vd, vs'] e' (0, 0)) ∧ BytesIn w R vd (s.stands n) ∧ BytesIn w R vs' (s.lasts n) ∧
    (Instr.lookup 62 (.map (some mf)) (.int .i64 (n : Int)) false).run Tryz.prog w = .ok (.pointer (some ⟨b, 0, none⟩)) w := by
  have hc := h.count
  have hb : n < fb.length := by omega
  obtain ⟨e', vd, vs', h1, h2, h3⟩ := h.file n fb[n] s.files[n] (by simp [hb]) (by simp [hn])
  refine ⟨fb[n], e', vd, vs', by simp [hb], h1, ?_, ?_, look_file h.filesM hb h63⟩
  · rw [stands_of (d := s.files[n]) (by simp [hn])]; exact h2
  · rw [lasts_of (d := s.files[n]) (by simp [hn])]; exact h3
end

set_option maxRecDepth 100000 in
set_option maxHeartbeats 2000000 in
theorem used_any {w : World} {p : Nat} {s : DSt} {R : Nat → Prop} {mf mn ms : Nat} {fb : List Nat} {vs vw : Value} {ss : List Value} {ws : List (List Value)} {e : TypeId} (h : DiskP w p s R mf mn ms fb vs vw ss ws e) {N : Nat} (hok : s.Ok N) (hN : N ≤ maxList) :
    Calls Tryz.prog 29 #[.pointer (some ⟨p, 0, none⟩)] w fun e w' => e = .returned (.int .i64 (s.used : Int)) ∧ Below w.heap.size w w' := by
  have c2 := cell_of_heap h.cells (i := 2) (v := .map (some mn)) (by rfl)
  have hmany := hok.manyNames
  have hmanyf := hok.manyFiles
  have hmx : maxList = 4194304 := rfl
  have hmf : maxFile = 1099511627776 := rfl
  have hbd : ∀ left, sumOf (fun n => (s.stands n).length) s.names left ≤ 4611686018427387904 := fun left => Nat.le_trans (sumOf_le _ _ _ maxFile hok.stands_le) (Nat.le_trans (Nat.mul_le_mul_right _ (Nat.le_trans hmany hN)) (by decide))
  go_enter Tryz.func29, Tryz.ntmps29
  go_wp2_with (first | (at_range; refine wpList_range_own _ rfl _ 64 rfl 9 3 (string_keyed Tryz.underlying9) Tryz.underlying64 (plainElem Tryz.prog 3) mn s.names.length (nameD s.names) rfl h.namesM ?_; intro w0 hrg0 hg0 hs0) | go_in)
  go_frame
  go_loopw [3] (fun v wr => ∃ left cnt, wr.ranges Tryz.prog 9 (plainElem Tryz.prog 3) mn w.heap.size s.names.length (nameD s.names) left cnt ∧ v = .int .i64 (sumOf (fun n => (s.stands n).length) s.names left : Int) ∧ Below w.heap.size w wr) (fun _ wr => wr.rangeLeft mn w.heap.size)
  case atStart => exact ⟨_, _, hrg0, by rw [sumOf_start]; rfl, (Chg.of_grown (O := fun _ => False) hg0 (by simp)).below (fun _ h => h.elim)⟩
  case round =>
    obtain ⟨left, cnt, hrg, rfl, hb⟩ := hrel
    go_wp2_with (at_next; refine wpList_next_ranges _ rfl _ rfl 9 (string_keyed Tryz.underlying9) (plainElem Tryz.prog 3) (fun x : List UInt8 => .string ⟨x.toArray⟩) (Value.int .i64) (fun key kl hkey => by obtain ⟨x, rfl, _⟩ := str_inv hkey; exact ⟨x, rfl⟩) (fun v y hv => by obtain ⟨c, rfl, _⟩ := plainElem_int_inv Tryz.underlying3 hv; exact ⟨c, rfl⟩) mn w.heap.size s.names.length (nameD s.names) left cnt rfl hrg ?_ ?_)
    · intro hc0 hl0
      go_wp2
      go_ret
      refine ⟨?_, hb⟩
      rw [sumOf_end _ _ _ hl0]; rfl
    · intro x c kl y1 y2 w1 cnt1 hkey hlk hv hat hrg1 hlt hg1 hs1 hen
      obtain ⟨x', ex, rfl⟩ := str_inv hkey
      obtain rfl : x = x' := by simpa using ex
      obtain ⟨c', ec, hy, hwc⟩ := plainElem_int_inv Tryz.underlying3 hv
      obtain ⟨rfl, rfl⟩ := Prod.mk.injEq _ _ _ _ ▸ hy
      obtain rfl : c = c' := by simpa using ec
      obtain ⟨n, hf, rfl⟩ := find_of_at hat
      have hn := (hok.names _ (nlFind_mem hf)).1
      have hb1 : Below w.heap.size w w1 := (hb.grown hg1 hb.size (by intro k e; cases e; exact Nat.le_refl _))
      have hD1 := h.grow hb1
      obtain ⟨fbk, e', vd, vs', _, hfh, ⟨da, dc, rfl, _⟩, _, hlf⟩ := hD1.at_file (n := n) hn (by omega)
      have c1 := cell_of_heap hD1.cells (i := 1) (v := .map (some mf)) (by rfl)
      have cf := cell_of_heap hfh (i := 0) (by rfl)
      have hst := sumOf_step (fun n => (s.stands n).length) s.names left x n (rising_ne hok.rising) hf hlk
      have hb1' := hbd left
      have hb2' := hbd (fun z => left z && !z.sameKey (.string x))
      have HST := Lib.hid hst
      rw [hst] at hb2'
      generalize hS : sumOf (fun n => (s.stands n).length) s.names left = S at *
      generalize (s.stands n).length = dl at *
      clear hD1 hfh hst
      go_wp2
      go_roundw
      case rel => exact ⟨_, cnt1, hrg1, by rw [HST.out]; go_num, hb1⟩
      case measure => rw [hrg1.left_eq, hrg.left_eq]; omega

end Go.Proofs.YtehmnmpkfbginaaGreat
/- Disk: a copy of bytes; what a pending write does to bytes. -/
namespace Go.Proofs.YtehmnmpkfbginaaGreat
open Go.RowKit Go.Maps

theorem Tryz.info5 : (Tryz.prog.info? 5).map (fun i => (i.zero, i.size, i.bytes)) = some (some (.int .u8 0), 1, 1) := by kernel_rfl

/-- the blocks that are new -/
def NewIn (w w' : World) : Nat → Prop := fun b => w.heap.size ≤ b ∧ b < w'.heap.size
theorem BytesIn.of_owns {w : World} {R : Nat → Prop} {base : Nat} {v : Value} {n : Nat} {l : List UInt8} (h : w.ownsRow base 5 1 v n (l.map bv)) (hR : ∀ b, base ≤ b → b < w.heap.size → R b) : BytesIn w R v l := by
  obtain ⟨a, c, rfl, hr, hl⟩ := RowAt.of_owns h
  have hn : l.length = n := by simpa using hl
  subst hn
  refine ⟨a, c, rfl, ownsRow_len_cap h, ownsRow_cap0 h, hr, fun x hx => ?_, fun x hx => ?_, ownsRow_base_le h (Nat.zero_le _)⟩
  · subst hx
    have := h.lt x.block rfl
    exact hR _ this.1 this.2
  · subst hx
    rcases h.2 with ⟨e, _⟩ | ⟨g, cap, cur, e, _⟩
    · cases e
    · cases e; rfl
theorem BytesIn.row {w : World} {R : Nat → Prop} {v : Value} {l : List UInt8} (h : BytesIn w R v l) : ∃ a c, v = .slice a l.length c ∧ l.length ≤ c ∧ (a = none → c = 0) ∧ RowAt w a (l.map bv) := by
  obtain ⟨a, c, h1, h2, h3, h4, _⟩ := h; exact ⟨a, c, h1, h2, h3, h4⟩

set_option maxRecDepth 100000 in
set_option maxHeartbeats 1000000 in
theorem clone_any (a : Option Addr) (c : Nat) (l : List UInt8) (w : World) (hnil : a = none → c = 0) (hrow : RowAt w a (l.map bv)) (hl : l.length ≤ 140737488355328) :
    Calls Tryz.prog 24 #[.slice a l.length c] w fun e w' => ∃ v, e = .returned v ∧ BytesIn w' (NewIn w w') v l ∧ Below w.heap.size w w' := by
  obtain ⟨i0, hi, hz0, hz1, hz2⟩ := info_parts Tryz.info5
  have hq : ∀ (w : World) (a : Option Addr) (n c n' c' : Nat), (binOp .eql 42 (.slice a n c) (.slice none n' c')).run Tryz.prog w = .ok (.bool a.isNone) w := fun w a n c n' c' => Lib.run_eql_slice_nil w _ _ a n c n' c' Tryz.underlying42
  cases a with
  | none =>
    obtain rfl := hnil rfl
    have hl0 : l = [] := by
      by_cases h : l = []
      · exact h
      · obtain ⟨b, off, e, _⟩ := hrow (by simpa using h); cases e
    subst hl0
    go_enter Tryz.func24, Tryz.ntmps24
    go_wp2
    go_ret
    exact ⟨_, rfl, BytesIn.nil _ _, Below.refl _ _⟩
  | some x =>
    have hm : maxLen = 9223372036854775807 := rfl
    go_enter Tryz.func24, Tryz.ntmps24
    go_wp2_with (at_builtin; go_loud (refine wpList_append_any _ rfl (.tmp 5) (.tmp 6) 42 rfl w.heap.size 5 i0 (.int .u8 0) 1 Tryz.underlying42 hi hz0 hz1 hz2 rfl _ 0 [] rfl (World.ownsRow_made w #[] 0 (Nat.le_refl _) (Nat.zero_le _) (by simp)) (some x) l.length c (l.map bv) rfl (by simp) hnil (hrow.below (below_alloc w _)) (by intro u hu; obtain ⟨_, _, rfl⟩ := List.mem_map.1 hu; rfl) (by omega) (by omega) (by rw [World.size_alloc]; omega) ?_))
    intro v1 w1 hown1 hg1
    have hown1 : w1.ownsRow w.heap.size 5 1 v1 l.length (l.map bv) := by simpa using hown1
    have hb : Below w.heap.size w w1 := (below_alloc w _).grown hg1 (by rw [World.size_alloc]; omega) (by intro k hk; simp [Value.ownBlock] at hk; omega)
    obtain ⟨sa, sc, rfl, _, _⟩ := RowAt.of_owns hown1
    go_wp2
    go_ret
    exact ⟨_, rfl, BytesIn.of_owns hown1 (fun b h1 h2 => ⟨h1, h2⟩), hb⟩

end Go.Proofs.YtehmnmpkfbginaaGreat
/- Disk: what a pending write does to bytes. -/
namespace Go.Proofs.YtehmnmpkfbginaaGreat
open Go.RowKit Go.Maps

/-- WHAT A WRITE's CLOSURE DOES TO BYTES -/
def DoesLay (v : Value) (x : Wr) (n : Nat) (vb : Value) (l : List UInt8) (R : Nat → Prop) (w : World) : Prop :=
  ∃ N caps, v = .func (.func N) #[] caps ∧ enters N ∧ Calls Tryz.prog N (#[vb, .int .i64 (n : Int)] ++ caps) w fun e w' => ∃ u, e = .returned u ∧ BytesIn w' (fun b => R b ∨ NewIn w w' b) u (laid l x n) ∧ Below w.heap.size w w'
theorem enters_cut : enters 108 := fun args w => by go_simp
theorem enters_write : enters 119 := fun args w => by go_simp
theorem BytesIn.mono {w : World} {R R' : Nat → Prop} {v : Value} {l : List UInt8} (h : BytesIn w R v l) (hR : ∀ b, R b → R' b) : BytesIn w R' v l := h.kept (Chg.refl (fun _ => False) w) (fun _ _ h => h) hR

set_option maxRecDepth 100000 in
set_option maxHeartbeats 1000000 in
theorem cut_lays {w : World} {R : Nat → Prop} {v : Value} {x : Wr} {n : Nat} {vb : Value} {l : List UInt8} (hv : LayIn w R v x) (hx : x.cut = true) (hb : BytesIn w R vb l) (hl : l.length ≤ 2199023255552) (hp : x.place ≤ 2199023255552) : DoesLay v x n vb l R w := by
  unfold LayIn at hv
  rw [if_pos hx] at hv
  obtain ⟨y, rfl, ⟨b1, rfl, _, c1⟩⟩ := hv
  obtain ⟨a, c, rfl, hle, hnil, hrow⟩ := hb.row
  refine ⟨_, _, rfl, enters_cut, ?_⟩
  have he : laid l x n = l.take x.place := by unfold laid; rw [if_pos hx]
  rw [he]
  generalize x.place = q at *
  clear hx
  by_cases hq : q ≤ l.length
  · have hsl := run_slice_hi (P := Tryz.prog) 42 5 Tryz.underlying42 Tryz.sizeOf5 a l.length c q (by omega)
    have hC := clone_any a c (l.take q)
    rw [show (l.take q).length = q from by simp; omega] at hC
    have hr2 := hrow.take q
    rw [← List.map_take] at hr2
    have HC := Lib.hid hC; clear hC
    go_enter Tryz.func108, Tryz.ntmps108
    go_wp2_with (go_at_call 24; refine (HC.out _ hnil hr2 (by omega)).mono ?_; rintro e1 w1 ⟨u, rfl, hu, hbel⟩)
    all_goals
      first
      | (exfalso; omega)
      | (go_ret
         exact ⟨_, rfl, hu.mono (fun b h => .inr h), hbel⟩)
  · have ht : l.take q = l := List.take_of_length_le (by omega)
    rw [ht]
    have hsl := run_slice_hi (P := Tryz.prog) 42 5 Tryz.underlying42 Tryz.sizeOf5 a l.length c l.length (by omega)
    have HC := Lib.hid (clone_any a c l)
    go_enter Tryz.func108, Tryz.ntmps108
    go_wp2_with (go_at_call 24; refine (HC.out _ hnil hrow (by omega)).mono ?_; rintro e1 w1 ⟨u, rfl, hu, hbel⟩)
    all_goals
      first
      | (exfalso; omega)
      | (go_ret
         exact ⟨_, rfl, hu.mono (fun b h => .inr h), hbel⟩)

end Go.Proofs.YtehmnmpkfbginaaGreat
/- Disk: what a pending write of bytes does to bytes. -/
namespace Go.Proofs.YtehmnmpkfbginaaGreat
open Go.RowKit Go.Maps

theorem laid_splice (l y : List UInt8) (q m : Nat) (hm : m = max l.length (q + y.length)) :
    splice (splice (List.replicate m (0 : UInt8)) 0 l) q y = (l ++ List.replicate (q - l.length) 0).take q ++ y ++ l.drop (q + y.length) := by
  apply List.ext_getElem?
  intro i
  unfold splice
  simp only [List.take_zero, List.nil_append, List.getElem?_append, List.getElem?_take, List.getElem?_drop, List.getElem?_replicate, List.length_append, List.length_take, List.length_drop, List.length_replicate, Nat.zero_add]
  have e1 : ∀ j, ¬ j < l.length → l[j]? = none := fun j h => List.getElem?_eq_none (by omega)
  have e2 : ∀ j, ¬ j < y.length → y[j]? = none := fun j h => List.getElem?_eq_none (by omega)
  grind

theorem map_splice {α β : Type} (f : α → β) (L : List α) (o : Nat) (c : List α) : (splice L o c).map f = splice (L.map f) o (c.map f) := by simp [splice]
theorem madeCells_one (m : Nat) : madeCells #[.int .u8 0] m = ((List.replicate m (0 : UInt8)).map bv).toArray := by
  apply Array.ext'
  simp [madeCells, bv, Nat.mod_one]
  rw [List.map_const', List.length_range]

theorem BytesIn.made {w : World} {R : Nat → Prop} {b m : Nat} {L : List UInt8} (h : w.heap[b]? = some (.cells (L.map bv).toArray 5 (0, 0))) (hm : L.length = m) (hmx : m ≤ maxLen) (hR : R b) : BytesIn w R (.slice (some ⟨b, 0, none⟩) m m) L := by
  subst hm
  refine ⟨_, _, rfl, Nat.le_refl _, (by simp), fun _ => ⟨b, 0, rfl, fun j u hu => ?_⟩, (fun x hx => by cases hx; exact hR), (fun x hx => by cases hx; rfl), (by simp), .inr ⟨b, L.length, (L.map bv).toArray, rfl, Nat.zero_le _, h, Nat.le_refl _, hmx, by simp, by rw [Nat.mul_one]; simp [List.take_of_length_le]⟩⟩
  rw [Nat.zero_add]
  exact cell_of_heap h (by simpa using hu)
theorem subAt_zero {b m q : Nat} (h : q < m) : subAt (some (⟨b, 0, none⟩ : Addr)) m q = some ⟨b, q, none⟩ := by
  unfold subAt
  rw [if_neg (by omega)]
  by_cases hq : q = 0
  · subst hq; simp [Addr.add]
  · simp [Addr.add, hq]
theorem src_of {w : World} {a : Option Addr} {xs : List Value} (h : RowAt w a xs) (hp : 0 < xs.length) : ∃ ad, a = some ad ∧ ∀ j v, xs[j]? = some v → w.cell? (ad.add j) = some v := by
  obtain ⟨b, off, e, hc⟩ := h (by intro e; rw [e] at hp; simp at hp)
  exact ⟨⟨b, off, none⟩, e, fun j v hv => by
    have := hc j v hv
    by_cases hj : j = 0
    · subst hj; simpa [Addr.add] using this
    · simpa [Addr.add, hj] using this⟩
theorem bvs_one (l : List UInt8) : ∀ v ∈ l.map bv, v.oneCell' = true := by intro u hu; obtain ⟨_, _, rfl⟩ := List.mem_map.1 hu; rfl

set_option maxRecDepth 100000 in
set_option maxHeartbeats 2000000 in
theorem write_lays {w : World} {R : Nat → Prop} {v : Value} {x : Wr} {n : Nat} {vb : Value} {l : List UInt8} (hv : LayIn w R v x) (hx : x.cut = false) (hb : BytesIn w R vb l) (hl : l.length ≤ maxFile) (hp : x.place + x.data.length ≤ maxFile) (hn : n ≤ x.data.length) (hRs : ∀ b, R b → b < w.heap.size) : DoesLay v x n vb l R w := by
  unfold LayIn at hv
  rw [if_neg (by simp [hx])] at hv
  obtain ⟨y, z, u, rfl, ⟨b1, rfl, _, c1⟩, ⟨b2, rfl, _, c2⟩, hu⟩ := hv
  obtain ⟨a, c, rfl, hle, hnil, hrow⟩ := hb.row
  obtain ⟨ua, uc, rfl, hule, hunil, hurow⟩ := hu.row
  have hmf : maxFile = 1099511627776 := rfl
  refine ⟨_, _, rfl, enters_write, ?_⟩
  by_cases hn0 : n = 0
  · subst hn0
    have he : laid l x 0 = l := by unfold laid; simp [hx]
    rw [he]
    go_enter Tryz.func119, Tryz.ntmps119
    go_wp2
    go_ret
    exact ⟨_, rfl, hb.mono (fun b h => .inl h), Below.refl _ _⟩
  · have hyl : (x.data.take n).length = n := by simp; omega
    have he : laid l x n = splice (splice (List.replicate (max l.length (x.place + n)) (0 : UInt8)) 0 l) x.place (x.data.take n) := by
      rw [laid_splice _ _ _ _ (by rw [hyl])]
      unfold laid; simp only [hx, Bool.false_eq_true, if_false, if_neg hn0, hyl]
    rw [he]
    have HE := Lib.hid he; clear he
    have hb0 : ((n : Int) == 0) = false := by simp; omega
    generalize x.place = q at *
    generalize x.data = y at *
    clear hx
    have hw : ∀ m : Nat, m = max l.length (q + n) → m ≤ 1099511627776 ∧ l.length ≤ m ∧ q + n ≤ m := by intro m hm; omega
    by_cases hc : l.length < q + n
    · have hmx : max l.length (q + n) = q + n := by omega
      rw [hmx]
      have hmk := run_make_row' (P := Tryz.prog) 42 5 (.int .u8 0) 1 Tryz.underlying42 Tryz.info5 rfl .i64 .i64 (q + n) (by omega) (by omega)
      rw [madeCells_one] at hmk
      have hpq : ((q + n : Nat) : Int) = (q : Int) + (n : Int) := by omega
      rw [hpq] at hmk
      have HP := Lib.hid hpq; clear hpq hmx
      go_enter Tryz.func119, Tryz.ntmps119
      have hsl1 := run_slice_lo (P := Tryz.prog) 42 5 Tryz.underlying42 Tryz.sizeOf5 (some (⟨w.heap.size, 0, none⟩ : Addr)) (q + n) (q + n) q (by omega)
      have hsl2 := run_slice_hi (P := Tryz.prog) 42 5 Tryz.underlying42 Tryz.sizeOf5 ua y.length uc n (by omega)
      have hln := Lib.hid (show l.length = Nat.min l.length (q + n) by simp [Nat.min_def]; omega)
      have hbz := below_alloc w (Obj.cells (Array.replicate (q + n) (bv 0)) 5)
      have HS1 := Lib.hid (src_of (hrow.below hbz))
      have HH := Lib.hid (show (w.alloc (Obj.cells (Array.replicate (q + n) (bv 0)) 5)).heap[w.heap.size]? = some (.cells ((List.replicate (q + n) (0 : UInt8)).map bv).toArray 5 (0, 0)) by rw [World.alloc_heap_new]; simp)
      go_wp2_with (with_reducible (show wpList _ _ _ (_ :: _) _ _); refine wpList_copy_splice rfl (.tmp 18) (.tmp 19) 42 42 rfl 5 Tryz.underlying42 (by kernel_rfl) _ _ _ _ _ _ rfl rfl w.heap.size 0 ((List.replicate (q + n) (0 : UInt8)).map bv) 5 HH.out (l.map bv) (by rw [List.length_map]; exact hln.out) (fun hpos => ⟨rfl, HS1.out hpos⟩) (by simp; omega) (bvs_one l) w.heap.size w hbz (Nat.le_refl _) ?_)
      intro w1 h1 hb1
      have c1' := (hb1.cell (p := ⟨b1, 0, none⟩) (cell_lt c1)).trans c1
      have c2' := (hb1.cell (p := ⟨b2, 0, none⟩) (cell_lt c2)).trans c2
      have hbw := hb1.drew
      go_wp2
      go_still_tail 6, (by kernel_rfl)
      change wpList _ _ _ _ _ w1.drew
      have hsub : subAt (some (⟨w.heap.size, 0, none⟩ : Addr)) (q + n) q = some ⟨w.heap.size, q, none⟩ := subAt_zero (by omega)
      rw [hsub]
      have h1d : w1.drew.heap[w.heap.size]? = some (.cells (splice ((List.replicate (q + n) (0 : UInt8)).map bv) 0 (l.map bv)).toArray 5 (0, 0)) := by
        have := h1.out
        rw [← List.map_replicate] at this
        exact this
      have hyy : ((y.take n).map bv).length = n := by simp; omega
      have hs2 := src_of ((hurow.take n).below hbw)
      rw [← List.map_take] at hs2
      refine wpList_copy_splice rfl (.tmp 23) (.tmp 26) 42 42 rfl 5 Tryz.underlying42 (by kernel_rfl) _ _ _ _ _ _ rfl rfl w.heap.size q (splice ((List.replicate (q + n) (0 : UInt8)).map bv) 0 (l.map bv)) 5 h1d ((y.take n).map bv) (by rw [hyy]; simp) (fun hpos => ⟨rfl, hs2 hpos⟩) (by rw [hyy, length_splice] <;> simp; omega) (bvs_one _) w.heap.size w hbw (Nat.le_refl _) ?_
      intro w2 h2 hb2
      go_wp2
      go_ret
      have h2 := h2.out
      rw [← map_splice, ← map_splice] at h2
      refine ⟨_, rfl, BytesIn.made h2 (by rw [length_splice] <;> rw [length_splice] <;> simp <;> omega) (by show _ ≤ 9223372036854775807; omega) (.inr ⟨Nat.le_refl _, heap_lt h2⟩), hb2⟩
    · have hmx : max l.length (q + n) = l.length := by omega
      rw [hmx]
      have hmk := run_make_row' (P := Tryz.prog) 42 5 (.int .u8 0) 1 Tryz.underlying42 Tryz.info5 rfl .i64 .i64 l.length (by omega) (by omega)
      rw [madeCells_one] at hmk
      clear hmx
      go_enter Tryz.func119, Tryz.ntmps119
      have hsl1 := run_slice_lo (P := Tryz.prog) 42 5 Tryz.underlying42 Tryz.sizeOf5 (some (⟨w.heap.size, 0, none⟩ : Addr)) l.length l.length q (by omega)
      have hsl2 := run_slice_hi (P := Tryz.prog) 42 5 Tryz.underlying42 Tryz.sizeOf5 ua y.length uc n (by omega)
      have hln := Lib.hid (show l.length = Nat.min l.length l.length by simp [Nat.min_def])
      have hbz := below_alloc w (Obj.cells (Array.replicate l.length (bv 0)) 5)
      have HS1 := Lib.hid (src_of (hrow.below hbz))
      have HH := Lib.hid (show (w.alloc (Obj.cells (Array.replicate l.length (bv 0)) 5)).heap[w.heap.size]? = some (.cells ((List.replicate l.length (0 : UInt8)).map bv).toArray 5 (0, 0)) by rw [World.alloc_heap_new]; simp)
      go_wp2_with (with_reducible (show wpList _ _ _ (_ :: _) _ _); refine wpList_copy_splice rfl (.tmp 18) (.tmp 19) 42 42 rfl 5 Tryz.underlying42 (by kernel_rfl) _ _ _ _ _ _ rfl rfl w.heap.size 0 ((List.replicate l.length (0 : UInt8)).map bv) 5 HH.out (l.map bv) (by rw [List.length_map]; exact hln.out) (fun hpos => ⟨rfl, HS1.out hpos⟩) (by simp) (bvs_one l) w.heap.size w hbz (Nat.le_refl _) ?_)
      intro w1 h1 hb1
      have c1' := (hb1.cell (p := ⟨b1, 0, none⟩) (cell_lt c1)).trans c1
      have c2' := (hb1.cell (p := ⟨b2, 0, none⟩) (cell_lt c2)).trans c2
      have hbw := hb1.drew
      go_wp2
      go_still_tail 6, (by kernel_rfl)
      change wpList _ _ _ _ _ w1.drew
      have hsub : subAt (some (⟨w.heap.size, 0, none⟩ : Addr)) l.length q = some ⟨w.heap.size, q, none⟩ := subAt_zero (by omega)
      rw [hsub]
      have h1d : w1.drew.heap[w.heap.size]? = some (.cells (splice ((List.replicate l.length (0 : UInt8)).map bv) 0 (l.map bv)).toArray 5 (0, 0)) := by
        have := h1.out
        rw [← List.map_replicate] at this
        exact this
      have hyy : ((y.take n).map bv).length = n := by simp; omega
      have hs2 := src_of ((hurow.take n).below hbw)
      rw [← List.map_take] at hs2
      refine wpList_copy_splice rfl (.tmp 23) (.tmp 26) 42 42 rfl 5 Tryz.underlying42 (by kernel_rfl) _ _ _ _ _ _ rfl rfl w.heap.size q (splice ((List.replicate l.length (0 : UInt8)).map bv) 0 (l.map bv)) 5 h1d ((y.take n).map bv) (by rw [hyy]; simp [Nat.min_def]; omega) (fun hpos => ⟨rfl, hs2 hpos⟩) (by rw [hyy, length_splice] <;> simp; omega) (bvs_one _) w.heap.size w hbw (Nat.le_refl _) ?_
      intro w2 h2 hb2
      go_wp2
      go_ret
      have h2 := h2.out
      rw [← map_splice, ← map_splice] at h2
      refine ⟨_, rfl, BytesIn.made h2 (by rw [length_splice] <;> rw [length_splice] <;> simp <;> omega) (by show _ ≤ 9223372036854775807; omega) (.inr ⟨Nat.le_refl _, heap_lt h2⟩), hb2⟩

end Go.Proofs.YtehmnmpkfbginaaGreat
