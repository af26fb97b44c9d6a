/- Disk: Size, Steps, Capacity, Pending, Room, Names. -/
import Derived.Test.YtgckcnnnblggbaaDkN
import Derived.Test.YtgckcnnnblggbaaQuiet
import Derived.Lib.QuietBelow
namespace Go.Proofs.Ytgckcnnnblggbaa
open Go.RowKit Go.Maps Go.Shelf

section
variable {w : World} {p : Nat} {s : DSt} {R : Nat → Prop} {mf mn ms : Nat} {fb : List Nat} {vs vw : Value} {ss : List Value} {ws : List (List Value)} {e : TypeId}
theorem Steps_any (h : DiskP w p s R mf mn ms fb vs vw ss ws e) : Calls Try.prog 28 #[.pointer (some ⟨p, 0, none⟩)] w fun e w' => e = .returned (.int .i64 (s.done : Int)) ∧ w = w' := by
  have c6 := cell_of_heap h.cells (i := 6) (v := .int .i64 (s.done : Int)) (by rfl)
  go_enter Try.func28, Try.ntmps28
  go_wp2
  go_ret
  exact ⟨rfl, rfl⟩
theorem Capacity_any (h : DiskP w p s R mf mn ms fb vs vw ss ws e) : Calls Try.prog 55 #[.pointer (some ⟨p, 0, none⟩)] w fun e w' => e = .returned (.int .i64 (s.room : Int)) ∧ w = w' := by
  have c0 := cell_of_heap h.cells (i := 0) (v := .int .i64 (s.room : Int)) (by rfl)
  go_enter Try.func55, Try.ntmps55
  go_wp2
  go_ret
  exact ⟨rfl, rfl⟩
theorem Pending_any (h : DiskP w p s R mf mn ms fb vs vw ss ws e) : Calls Try.prog 27 #[.pointer (some ⟨p, 0, none⟩)] w fun e w' => e = .returned (.tuple #[.int .i64 (s.steps.length : Int), .int .i64 (s.writes.length : Int)]) ∧ Below w.heap.size w w' := by
  obtain ⟨sa, sc, rfl⟩ := row_slice h.stepsR
  obtain ⟨wa, wc, rfl⟩ := row_slice h.writesR
  have c4 := cell_of_heap h.cells (i := 4) (v := .slice sa s.steps.length sc) (by rfl)
  have c5 := cell_of_heap h.cells (i := 5) (v := .slice wa s.writes.length wc) (by rfl)
  go_enter Try.func27, Try.ntmps27
  go_wp2
  go_quiet (fail)
  go_wp2
  go_ret2
  exact ⟨rfl, below_drewN (Below.refl _ _) _⟩

set_option maxRecDepth 100000 in
set_option maxHeartbeats 2000000 in
theorem Size_any (h : DiskP w p s R mf mn ms fb vs vw ss ws e) {k : List UInt8} (hk : k.length ≤ maxLen) {N : Nat} (hok : s.Ok N) (hN : N < maxList) :
    Calls Try.prog 54 #[.pointer (some ⟨p, 0, none⟩), .string ⟨k.toArray⟩] w fun e w' => e = .returned (.tuple #[.int .i64 ((s.size k).1 : Int), .int .i64 ((s.size k).2 : Int)]) ∧ Below w.heap.size w w' := by
  obtain ⟨w3, hw3⟩ : ∃ w3, w.alloc (.cells #[.int .i64 0] 2) = w3 := ⟨_, rfl⟩
  have hb3 : Below w.heap.size w w3 := by rw [← hw3]; exact below_alloc w _
  have hz3 : w3.heap.size = w.heap.size + 1 := by rw [← hw3]; simp
  have hca : Boxed w3 w.heap.size 2 (.int .i64 0) := by rw [← hw3]; exact Boxed.new _ _ _
  have h3 := h.below hb3
  have hmx : maxList = 4194304 := rfl
  have hco1 := hca.cell
  have HW3 := Lib.hid hw3; clear hw3
  cases hf : nlFind s.names k with
  | none =>
    have he : s.size k = (0, 7) := by unfold DSt.size; rw [hf]
    rw [he]
    have hlk := fun f => look_none h3 hk hf f
    clear he
    have HZ := Lib.hid hz3; clear hz3
    go_enter Try.func54, Try.ntmps54
    go_wp2_with fail
    rw [HW3.out]
    refine (hlk _).mono ?_
    rintro e1 w4 ⟨rfl, rfl⟩
    go_wp2
    go_ret2
    exact ⟨rfl, hb3⟩
  | some f =>
    have he : s.size k = ((s.stands f).length, 0) := by unfold DSt.size; rw [hf]
    rw [he]
    have hn := (hok.names _ (nlFind_mem hf)).1
    have hnn : f ≤ 4194304 := by have := hok.manyFiles; omega
    obtain ⟨b, e', vd, vs', hfb, hfh, hbd, _, _⟩ := h3.file_at (n := f) hn (by omega)
    obtain ⟨da, dc, rfl, _, _, _⟩ := hbd.row
    have hr : Calls Try.prog 66 #[.pointer (some ⟨b, 0, none⟩), .pointer (some ⟨w.heap.size, 0, none⟩)] w3 fun e w' => ∃ v, e = .returned (.int .i64 v) ∧ v = 0 ∧ w' = w3.setCell ⟨w.heap.size, 0, none⟩ (.int .i64 ((s.stands f).length : Int)) := by
      have f0 := cell_of_heap hfh (i := 0) (v := .slice da (s.stands f).length dc) (by rfl)
      have z0 := hca.frozen
      go_enter Try.func66, Try.ntmps66
      go_wp2
      go_ret
      exact ⟨_, rfl, rfl, rfl⟩
    have hlk := look_some h3 hk hf hfb (by omega) 66 #[.pointer (some ⟨w.heap.size, 0, none⟩)] enters_size1 (fun v w' => v = 0 ∧ w' = w3.setCell ⟨w.heap.size, 0, none⟩ (.int .i64 ((s.stands f).length : Int))) hr
    have hset := Boxed.set (.int .i64 ((s.stands f).length : Int)) hca
    have hcs := hset.cell
    have hcc := hb3.setCell (p := ⟨w.heap.size, 0, none⟩) (Nat.le_refl _) (.int .i64 ((s.stands f).length : Int))
    clear hr hfh hbd he
    have HZ := Lib.hid hz3; clear hz3
    go_enter Try.func54, Try.ntmps54
    go_wp2_with fail
    rw [HW3.out]
    refine hlk.mono ?_
    rintro e1 w4 ⟨v, rfl, rfl, rfl⟩
    go_wp2
    go_ret2
    exact ⟨rfl, hcc⟩

set_option maxRecDepth 100000 in
set_option maxHeartbeats 2000000 in
theorem Room_any (h : DiskP w p s R mf mn ms fb vs vw ss ws e) {N : Nat} (hok : s.Ok N) (hN : N < maxList) :
    Calls Try.prog 29 #[.pointer (some ⟨p, 0, none⟩)] w fun e w' => e = .returned (.int .i64 ((s.room - s.used : Nat) : Int)) ∧ Below w.heap.size w w' := by
  have hmx : maxList = 4194304 := rfl
  have hmf : maxFile = 1099511627776 := rfl
  have hroom := hok.room
  have hus : s.used ≤ 4611686018427387904 := by have := sumOf_used hok; have := Nat.mul_le_mul_right maxFile (show N ≤ 4194304 by omega); omega
  have c0 := cell_of_heap h.cells (i := 0) (v := .int .i64 (s.room : Int)) (by rfl)
  have hU := fun d os => Calls.regrown_of (used_any (h.below (below_regrown w d os)) hok (by omega))
  have k0 := cell_regrown c0
  go_enter Try.func29, Try.ntmps29
  go_wp2
  refine wp_region_quiet_belowP rfl (by kernel_rfl) ?_
  repeat (quiet_step (exact hU _ _))
  refine wpQuiet_nil ?_
  intro w4 hb4
  have hwr : IntKind.i64.wrap ((s.room : Int) - (s.used : Int)) = (s.room : Int) - (s.used : Int) := Go.IntWalk.i64_in _ (by omega)
  rw [hwr]
  go_wp2
  go_ret
  exact ⟨by rw [show max (0 : Int) ((s.room : Int) - (s.used : Int)) = ((s.room - s.used : Nat) : Int) by omega]; rfl, hb4⟩
end

end Go.Proofs.Ytgckcnnnblggbaa
