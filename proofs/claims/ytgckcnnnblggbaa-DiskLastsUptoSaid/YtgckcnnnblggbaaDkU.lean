/- Disk: New. -/
import Derived.Test.YtgckcnnnblggbaaDkT
namespace Go.Proofs.Ytgckcnnnblggbaa
open Go.RowKit Go.Maps Go.Shelf

/-- a disk without files -/
def DSt.empty (room : Nat) : DSt := ⟨room, [], [], [], [], [], 0⟩

theorem new_bad {cap : Int} (hc : cap < 0 ∨ 1099511627776 < cap) (w : World) : Calls Try.prog 25 #[.int .i64 cap] w fun e w' => e = .returned (.tuple #[.pointer none, .int .i64 2]) ∧ w = w' := by
  have hO : Calls Try.prog 10 #[.int .i64 cap, .slice none 0 0] w fun e w' => e = .returned (.tuple #[.pointer none, .int .i64 2]) ∧ w = w' := by
    by_cases h1 : cap < 0
    · have g1 : decide (cap < 0) = true := by simpa using h1
      go_enter Try.func10, Try.ntmps10
      go_wp2
      go_ret2
      exact ⟨rfl, rfl⟩
    · have g1 : decide (cap < 0) = false := by simpa using h1
      have g2 : decide (1099511627776 < cap) = true := by simp; omega
      go_enter Try.func10, Try.ntmps10
      go_wp2
      go_ret2
      exact ⟨rfl, rfl⟩
  go_enter Try.func25, Try.ntmps25
  go_wp2_with (go_at_call 10; refine hO.mono ?_; rintro _ w1 ⟨rfl, rfl⟩)
  go_ret2
  exact ⟨rfl, rfl⟩

set_option maxRecDepth 100000 in
set_option maxHeartbeats 4000000 in
theorem of_none {cap : Nat} (hc : cap ≤ 1099511627776) (w : World) : Calls Try.prog 10 #[.int .i64 (cap : Int), .slice none 0 0] w fun e w' => ∃ p own, e = .returned (.tuple #[.pointer (some ⟨p, 0, none⟩), .int .i64 0]) ∧ DiskAt w' p (DSt.empty cap) own (fun b => w.heap.size ≤ b ∧ b < w'.heap.size ∧ b ∉ own) ∧ (∀ b ∈ own, w.heap.size ≤ b) ∧ Below w.heap.size w w' := by
  have g1 : decide ((cap : Int) < 0) = false := by simp
  have g2 : decide (1099511627776 < (cap : Int)) = false := by simp; omega
  have hmk := fun t w => run_makeMap (P := Try.prog) t w
  obtain ⟨w3, hw3⟩ : ∃ w3, ((w.alloc (.map #[] 0)).alloc (.map #[] 0)).alloc (.cells #[.int .i64 (cap : Int), .map (some w.heap.size), .map (some (w.heap.size + 1)), .map none, .slice none 0 0, .slice none 0 0, .int .i64 0] 65) = w3 := ⟨_, rfl⟩
  have hb3 : Below w.heap.size w w3 := by rw [← hw3]; exact ((below_alloc w _).alloc (by simp) _).alloc (by simp; omega) _
  have hz3 : w3.heap.size = w.heap.size + 1 + 1 + 1 := by rw [← hw3]; simp
  have hfm : w3.ownsMap Try.prog 3 ptrElem w.heap.size 0 (filesD []) := by rw [← hw3]; exact ((World.ownsMap_made w _ _ _).alloc _).alloc _
  have hnm : w3.ownsMap Try.prog 9 (plainElem Try.prog 3) (w.heap.size + 1) 0 (nameD []) := by rw [← hw3]; have := (World.ownsMap_made (w.alloc (.map #[] 0)) Try.prog 9 (plainElem (H := Unit) Try.prog 3)).alloc (.cells #[.int .i64 (cap : Int), .map (some w.heap.size), .map (some (w.heap.size + 1)), .map none, .slice none 0 0, .slice none 0 0, .int .i64 0] 65); rwa [World.size_alloc] at this
  have hcl : w3.heap[w.heap.size + 1 + 1]? = some (.cells #[.int .i64 (cap : Int), .map (some w.heap.size), .map (some (w.heap.size + 1)), .map none, .slice none 0 0, .slice none 0 0, .int .i64 0] 65 (0, 0)) := by rw [← hw3]; have := World.alloc_heap_new ((w.alloc (.map #[] 0)).alloc (.map #[] 0)) (.cells #[.int .i64 (cap : Int), .map (some w.heap.size), .map (some (w.heap.size + 1)), .map none, .slice none 0 0, .slice none 0 0, .int .i64 0] 65); rwa [World.size_alloc, World.size_alloc] at this
  have c2 := cell_of_heap hcl (i := 2) (v := .map (some (w.heap.size + 1))) (by rfl)
  have hcn := cloneN_any hnm
  have hplt := heap_lt hcl
  have HZ := Lib.hid hz3; clear hz3
  go_enter Try.func10, Try.ntmps10
  go_wp2_with fail
  refine wp_loop_rounds 1 ?_
  rw [rounds_succ]
  go_wp2_with (go_at_call 33; refine hcn.mono ?_; rintro _ w4 ⟨rfl, hm4, hb4⟩; have k3 := cell_of_heap ((hb4.block _ hplt).trans hcl) (i := 3) (v := .map none) (by rfl); have z3 := frozen_of_heap (i := 3) ((hb4.block _ hplt).trans hcl))
  go_ret2
  have hz3 := HZ.out
  have hm4s := hm4.lt
  have hs4 := hb4.size
  have hc5 : Chg (· = w.heap.size + 1 + 1) w4 (w4.setCell ⟨w.heap.size + 1 + 1, 3, none⟩ (.map (some w3.heap.size))) := Chg.set _ rfl
  have hcell5 := heap_set_cells (i := 3) (.map (some w3.heap.size)) ((hb4.block _ hplt).trans hcl)
  have hc35 : Chg (· = w.heap.size + 1 + 1) w3 (w4.setCell ⟨w.heap.size + 1 + 1, 3, none⟩ (.map (some w3.heap.size))) := (Chg.of_below hb4).trans hc5 (fun _ h _ => h)
  have hs5 : (w4.setCell ⟨w.heap.size + 1 + 1, 3, none⟩ (.map (some w3.heap.size))).heap.size = w4.heap.size := by simp [World.setCell]
  have hfm5 := hc35.map hfm (by omega)
  have hnm5 := hc35.map hnm (by omega)
  have hm5 := hc5.map hm4 (by omega)
  have hbf : Below w.heap.size w (w4.setCell ⟨w.heap.size + 1 + 1, 3, none⟩ (.map (some w3.heap.size))) := (bthen hb3 hb4).setCell (p := ⟨w.heap.size + 1 + 1, 3, none⟩) (by show _ ≤ w.heap.size + 1 + 1; omega) _
  generalize w4.setCell ⟨w.heap.size + 1 + 1, 3, none⟩ (.map (some w3.heap.size)) = w5 at *
  refine ⟨_, _, rfl, ⟨w.heap.size, w.heap.size + 1, w3.heap.size, [], .slice none 0 0, .slice none 0 0, [], [], 65, ?_, rfl⟩, ?_, hbf⟩
  · exact {
      cells := by simpa [DSt.empty] using hcell5
      filesM := hfm5
      namesM := hnm5
      sureM := hm5
      count := rfl
      file := fun i b d hb => by simp at hb
      stepsR := World.ownsRow_nil _ _ _ _
      step := fun i v x hv => by simp at hv
      writesR := World.ownsRow_nil _ _ _ _
      count4 := rfl
      write := fun i c x hc => by simp at hc
      apart := by simp [ownL, Value.ownBlock]; omega
      own := fun b hb => ⟨by simp [ownL, Value.ownBlock] at hb; omega, fun h => h.2.2 hb⟩
      shared := fun b hb => hb.2.1
      sureR := ⟨by omega, by omega, fun hm => by simp [ownL, Value.ownBlock] at hm; omega⟩ }
  · intro b hb
    simp [ownL, Value.ownBlock] at hb
    omega

theorem new_any {cap : Nat} (hc : cap ≤ 1099511627776) (w : World) : Calls Try.prog 25 #[.int .i64 (cap : Int)] w fun e w' => ∃ p own, e = .returned (.tuple #[.pointer (some ⟨p, 0, none⟩), .int .i64 0]) ∧ DiskAt w' p (DSt.empty cap) own (fun b => w.heap.size ≤ b ∧ b < w'.heap.size ∧ b ∉ own) ∧ (∀ b ∈ own, w.heap.size ≤ b) ∧ Below w.heap.size w w' := by
  have hO := of_none hc w
  go_enter Try.func25, Try.ntmps25
  go_wp2_with (go_at_call 10; refine hO.mono ?_; rintro _ w1 ⟨p, own, rfl, hD, ho, hb⟩)
  go_ret2
  exact ⟨p, own, rfl, hD, ho, hb⟩

end Go.Proofs.Ytgckcnnnblggbaa
