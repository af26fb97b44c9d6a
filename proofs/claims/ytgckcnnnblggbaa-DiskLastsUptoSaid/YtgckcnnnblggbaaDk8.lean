/- Disk: how many bytes the named files have. -/
import Derived.Test.YtgckcnnnblggbaaDk7
namespace Go.Proofs.Ytgckcnnnblggbaa
open Go.RowKit Go.Maps

def sumOf (f : Nat → Nat) (l : NL) (left : Lit → Bool) : Nat := ((l.filter fun p => !left (.string p.1)).map fun p => f p.2).sum
theorem sumOf_start (f : Nat → Nat) (l : NL) : sumOf f l (has (nameD l)) = 0 := by
  unfold sumOf
  have : (l.filter fun p => !has (nameD l) (.string p.1)) = [] := by
    rw [List.filter_eq_nil_iff]
    intro p hp
    rw [nameD_has]
    unfold nlFind
    have h : (l.find? fun q => q.1 == p.1).isSome := by rw [List.find?_isSome]; exact ⟨p, hp, by simp⟩
    simp [h]
  rw [this]; rfl
theorem sumOf_end (f : Nat → Nat) (l : NL) (left : Lit → Bool) (h : ∀ kl, left kl = false) : sumOf f l left = (l.map fun p => f p.2).sum := by
  unfold sumOf; rw [List.filter_eq_self.2]; intro p _; simp [h]
theorem sumOf_le (f : Nat → Nat) (l : NL) (left : Lit → Bool) (M : Nat) (h : ∀ n, f n ≤ M) : sumOf f l left ≤ l.length * M := by
  unfold sumOf
  induction l with
  | nil => simp
  | cons x r ih =>
    rw [List.filter_cons]
    split
    · simp only [List.map_cons, List.sum_cons, List.length_cons]; have := h x.2; rw [Nat.succ_mul]; omega
    · simp only [List.length_cons]; rw [Nat.succ_mul]; omega
theorem rising_ne {l : NL} (h : Rising l) : l.Pairwise (fun p q => p.1 ≠ q.1) := List.Pairwise.imp (fun {a b} hab e => by rw [e, WideAt.bytes_irrefl] at hab; cases hab) h
theorem sumOf_step (f : Nat → Nat) (l : NL) (left : Lit → Bool) (k : List UInt8) (n : Nat) (hp : l.Pairwise (fun p q => p.1 ≠ q.1)) (hf : nlFind l k = some n) (hl : left (.string k) = true) :
    sumOf f l (fun z => left z && !z.sameKey (.string k)) = sumOf f l left + f n := by
  unfold sumOf
  induction l with
  | nil => simp [nlFind] at hf
  | cons x r ih =>
    obtain ⟨h1, h2⟩ := List.pairwise_cons.1 hp
    have e : (Lit.string x.1).sameKey (.string k) = (x.1 == k) := rfl
    by_cases hx : x.1 = k
    · have hr : (r.filter fun p => !((left (.string p.1)) && !(Lit.string p.1).sameKey (.string k))) = r.filter fun p => !left (.string p.1) := by
        apply List.filter_congr
        intro p hp
        have e2 : (Lit.string p.1).sameKey (.string k) = (p.1 == k) := rfl
        rw [e2]
        have : p.1 ≠ k := fun e3 => h1 p hp (by rw [hx, e3])
        have : (p.1 == k) = false := by simpa using this
        rw [this]; simp
      have ek : (Lit.string k).sameKey (.string k) = true := by rw [same_str]; simp
      have hn : n = x.2 := by unfold nlFind at hf; simp [hx] at hf; exact hf.symm
      simp only [List.filter_cons, hr, hx, hl, ek]
      simp [hn]; omega
    · have hx' : (x.1 == k) = false := by simpa using hx
      have hf' : nlFind r k = some n := by unfold nlFind at hf ⊢; rw [List.find?_cons, hx'] at hf; exact hf
      have := ih h2 hf'
      simp only [List.filter_cons, e, hx', Bool.not_false, Bool.and_true]
      by_cases hlx : left (.string x.1) = true
      · simp only [hlx, Bool.not_true, Bool.false_eq_true, if_false]; exact this
      · have hlx' : left (.string x.1) = false := by simpa using hlx
        simp only [] at this
        simp only [hlx', Bool.not_false, if_true, List.map_cons, List.sum_cons]
        omega
theorem nlFind_mem {l : NL} {k : List UInt8} {n : Nat} (h : nlFind l k = some n) : (k, n) ∈ l := by
  unfold nlFind at h
  obtain ⟨p, hp, rfl⟩ := Option.map_eq_some_iff.1 h
  have h1 := List.mem_of_find?_eq_some hp
  have h2 := List.find?_some hp
  simp at h2
  rw [← h2]; exact h1
theorem find_of_at {l : NL} {k : List UInt8} {c : Int} (h : ∀ zd : DataW Unit, (nameD l).atKey (.string k) zd = .lit (.int .i64 c)) : ∃ n : Nat, nlFind l k = some n ∧ c = (n : Int) := by
  have h1 := h .nil
  rw [nameD_at] at h1
  cases hf : nlFind l k with
  | none => rw [hf] at h1; simp at h1
  | some n => rw [hf] at h1; simp at h1; exact ⟨n, rfl, h1.symm⟩
theorem str_inv {key : Value} {kl : Lit} (h : keyOf Try.prog 9 key = some kl) : ∃ x : List UInt8, key = .string ⟨x.toArray⟩ ∧ kl = .string x := by
  cases key <;> simp [keyOf, Try.underlying9, mapKey] at h
  rename_i s
  obtain ⟨_, rfl⟩ := h
  exact ⟨s.data.toList, by simp, rfl⟩

theorem DSt.Ok.stands_le {s : DSt} {N : Nat} (h : s.Ok N) (n : Nat) : (s.stands n).length ≤ maxFile := by
  unfold DSt.stands
  rw [List.getD_eq_getElem?_getD]
  cases hg : s.files[n]? with
  | none => simp
  | some d => exact (h.files d (List.mem_of_getElem? hg)).1
theorem stands_of {s : DSt} {n : Nat} {d : List UInt8 × List UInt8} (h : s.files[n]? = some d) : s.stands n = d.1 := by unfold DSt.stands; rw [List.getD_eq_getElem?_getD, h]; rfl
theorem lasts_of {s : DSt} {n : Nat} {d : List UInt8 × List UInt8} (h : s.files[n]? = some d) : s.lasts n = d.2 := by unfold DSt.lasts; rw [List.getD_eq_getElem?_getD, h]; rfl

section
variable {w : World} {p : Nat} {s : DSt} {R : Nat → Prop} {mf mn ms : Nat} {fb : List Nat} {vs vw : Value} {ss : List Value} {ws : List (List Value)} {e : TypeId}
/-- a named file in memory -/
theorem DiskP.at_file (h : DiskP w p s R mf mn ms fb vs vw ss ws e) {n : Nat} (hn : n < s.files.length) (h63 : n < 9223372036854775808) : ∃ b e' vd vs', fb[n]? = some b ∧ w.heap[b]? = some (.cells #[vd, vs'] e' (0, 0)) ∧ BytesIn w R vd (s.stands n) ∧ BytesIn w R vs' (s.lasts n) ∧
    (Instr.lookup 59 (.map (some mf)) (.int .i64 (n : Int)) false).run Try.prog w = .ok (.pointer (some ⟨b, 0, none⟩)) w := by
  have hc := h.count
  have hb : n < fb.length := by omega
  obtain ⟨e', vd, vs', h1, h2, h3⟩ := h.file n fb[n] s.files[n] (by simp [hb]) (by simp [hn])
  refine ⟨fb[n], e', vd, vs', by simp [hb], h1, ?_, ?_, look_file h.filesM hb h63⟩
  · rw [stands_of (d := s.files[n]) (by simp [hn])]; exact h2
  · rw [lasts_of (d := s.files[n]) (by simp [hn])]; exact h3
end

set_option maxRecDepth 100000 in
set_option maxHeartbeats 2000000 in
theorem used_any {w : World} {p : Nat} {s : DSt} {R : Nat → Prop} {mf mn ms : Nat} {fb : List Nat} {vs vw : Value} {ss : List Value} {ws : List (List Value)} {e : TypeId} (h : DiskP w p s R mf mn ms fb vs vw ss ws e) {N : Nat} (hok : s.Ok N) (hN : N ≤ maxList) :
    Calls Try.prog 36 #[.pointer (some ⟨p, 0, none⟩)] w fun e w' => e = .returned (.int .i64 (s.used : Int)) ∧ Below w.heap.size w w' := by
  have c2 := cell_of_heap h.cells (i := 2) (v := .map (some mn)) (by rfl)
  have hmany := hok.manyNames
  have hmanyf := hok.manyFiles
  have hmx : maxList = 4194304 := rfl
  have hmf : maxFile = 1099511627776 := rfl
  have hbd : ∀ left, sumOf (fun n => (s.stands n).length) s.names left ≤ 4611686018427387904 := fun left => Nat.le_trans (sumOf_le _ _ _ maxFile hok.stands_le) (Nat.le_trans (Nat.mul_le_mul_right _ (Nat.le_trans hmany hN)) (by decide))
  go_enter Try.func36, Try.ntmps36
  go_wp2_with (first | (at_range; refine wpList_range_own _ rfl _ 61 rfl 9 3 (string_keyed Try.underlying9) Try.underlying61 (plainElem Try.prog 3) mn s.names.length (nameD s.names) rfl h.namesM ?_; intro w0 hrg0 hg0 hs0) | go_in)
  go_frame
  go_loopw [3] (fun v wr => ∃ left cnt, wr.ranges Try.prog 9 (plainElem Try.prog 3) mn w.heap.size s.names.length (nameD s.names) left cnt ∧ v = .int .i64 (sumOf (fun n => (s.stands n).length) s.names left : Int) ∧ Below w.heap.size w wr) (fun _ wr => wr.rangeLeft mn w.heap.size)
  case atStart => exact ⟨_, _, hrg0, by rw [sumOf_start]; rfl, (Chg.of_grown (O := fun _ => False) hg0 (by simp)).below (fun _ h => h.elim)⟩
  case round =>
    obtain ⟨left, cnt, hrg, rfl, hb⟩ := hrel
    go_wp2_with (at_next; refine wpList_next_ranges _ rfl _ rfl 9 (string_keyed Try.underlying9) (plainElem Try.prog 3) (fun x : List UInt8 => .string ⟨x.toArray⟩) (Value.int .i64) (fun key kl hkey => by obtain ⟨x, rfl, _⟩ := str_inv hkey; exact ⟨x, rfl⟩) (fun v y hv => by obtain ⟨c, rfl, _⟩ := plainElem_int_inv Try.underlying3 hv; exact ⟨c, rfl⟩) mn w.heap.size s.names.length (nameD s.names) left cnt rfl hrg ?_ ?_)
    · intro hc0 hl0
      go_wp2
      go_ret
      refine ⟨?_, hb⟩
      rw [sumOf_end _ _ _ hl0]; rfl
    · intro x c kl y1 y2 w1 cnt1 hkey hlk hv hat hrg1 hlt hg1 hs1 hen
      obtain ⟨x', ex, rfl⟩ := str_inv hkey
      obtain rfl : x = x' := by simpa using ex
      obtain ⟨c', ec, hy, hwc⟩ := plainElem_int_inv Try.underlying3 hv
      obtain ⟨rfl, rfl⟩ := Prod.mk.injEq _ _ _ _ ▸ hy
      obtain rfl : c = c' := by simpa using ec
      obtain ⟨n, hf, rfl⟩ := find_of_at hat
      have hn := (hok.names _ (nlFind_mem hf)).1
      have hb1 : Below w.heap.size w w1 := (hb.grown hg1 hb.size (by intro k e; cases e; exact Nat.le_refl _))
      have hD1 := h.grow hb1
      obtain ⟨fbk, e', vd, vs', _, hfh, ⟨da, dc, rfl, _⟩, _, hlf⟩ := hD1.at_file (n := n) hn (by omega)
      have c1 := cell_of_heap hD1.cells (i := 1) (v := .map (some mf)) (by rfl)
      have cf := cell_of_heap hfh (i := 0) (by rfl)
      have hst := sumOf_step (fun n => (s.stands n).length) s.names left x n (rising_ne hok.rising) hf hlk
      have hb1' := hbd left
      have hb2' := hbd (fun z => left z && !z.sameKey (.string x))
      have HST := Lib.hid hst
      rw [hst] at hb2'
      generalize hS : sumOf (fun n => (s.stands n).length) s.names left = S at *
      generalize (s.stands n).length = dl at *
      clear hD1 hfh hst
      go_wp2
      go_roundw
      case rel => exact ⟨_, cnt1, hrg1, by rw [HST.out]; go_num, hb1⟩
      case measure => rw [hrg1.left_eq, hrg.left_eq]; omega

end Go.Proofs.Ytgckcnnnblggbaa
