/- Texts of this claim, one behind the other: SgE, SgC. -/
import Derived.Test.YtlmdpcaikhdenaaGreatSl04
import Derived.Deep.RegionHeld3
import Derived.Test.YtlmdpcaikhdenaaGreatSl02
import Derived.BigQuiet
import Derived.Deep.QuietTactic
set_option linter.unusedSimpArgs false
set_option linter.unusedVariables false
/- Wire: the writer. -/
namespace Go.Proofs.YtlmdpcaikhdenaaGreat
open Go.RowKit Go.Maps

/-- a writer lies at p: it has written the bytes l; F are the blocks that it writes -/
def WrAt (F : Nat → Prop) (w : World) (p : Nat) (l : List UInt8) : Prop :=
  ∃ v, w.heap[p]? = some (.cells #[v] 246 (0, 0)) ∧ w.ownsRow 0 5 1 v l.length (l.map bv) ∧ v.ownBlock ≠ some p ∧ ∀ b, F b ↔ b = p ∨ v.ownBlock = some b
/-- a step of the writer: its blocks are the old ones, or new -/
def WrStep (F : Nat → Prop) (w w' : World) (p : Nat) (l : List UInt8) : Prop := ∃ F', WrAt F' w' p l ∧ Chg F w w' ∧ ∀ b, F' b → F b ∨ w.heap.size ≤ b
section
variable {F : Nat → Prop} {w w' : World} {p : Nat} {l : List UInt8}
theorem WrAt.kept (h : WrAt F w p l) {O : Nat → Prop} (hc : Chg O w w') (hO : ∀ b, F b → ¬ O b) : WrAt F w' p l := by
  obtain ⟨v, h1, h2, h3, h4⟩ := h
  exact ⟨v, hc.obj h1 (hO p ((h4 p).2 (.inl rfl))), hc.row h2 (fun b hb => hO b ((h4 b).2 (.inr hb))), h3, h4⟩
theorem WrAt.below (h : WrAt F w p l) (hb : Below w.heap.size w w') : WrAt F w' p l := h.kept (O := fun _ => False) (Chg.of_below hb) (fun _ _ h => h)
theorem WrAt.lt (h : WrAt F w p l) : ∀ b, F b → b < w.heap.size := by
  obtain ⟨v, h1, h2, h3, h4⟩ := h
  intro b hb
  rcases (h4 b).1 hb with rfl | hb
  · exact heap_lt h1
  · exact (h2.lt b hb).2
theorem newWriter_any (w : World) : Calls Tryz.prog 112 #[] w fun e w' => e = .returned (.pointer (some ⟨w.heap.size, 0, none⟩)) ∧ WrAt (fun b => b = w.heap.size) w' w.heap.size [] ∧ Below w.heap.size w w' := by
  go_enter Tryz.func112, Tryz.ntmps112
  go_wp2
  go_ret
  exact ⟨rfl, ⟨_, World.alloc_heap_new w _, World.ownsRow_nil _ _ _ _, (fun e => by cases e), fun b => ⟨.inl, fun h => h.elim id (fun e => by cases e)⟩⟩, below_alloc _ _⟩
theorem WrStep.of_drew (h : WrStep F w.drew w' p l) : WrStep F w w' p l := by
  obtain ⟨F', h1, h2, h3⟩ := h
  exact ⟨F', h1, ⟨h2.os, h2.tape, h2.output, h2.size, h2.block⟩, h3⟩
/-- the row of a writer is stored back -/
theorem WrAt.put {v v' : Value} {l' : List UInt8} {w1 : World} (h1 : w.heap[p]? = some (.cells #[v] 246 (0, 0))) (h2 : w.ownsRow 0 5 1 v l.length (l.map bv)) (h3 : v.ownBlock ≠ some p) (h4 : ∀ b, F b ↔ b = p ∨ v.ownBlock = some b)
    (hr : w1.ownsRow 0 5 1 v' l'.length (l'.map bv)) (hg : Grew v w v' w1) : WrStep F w (w1.setCell ⟨p, 0, none⟩ v') p l' := by
  have hp := heap_lt h1
  have hx := hg.1.obj h1 h3
  have hs := hg.1.size
  have hn : v'.ownBlock ≠ some p := by
    rcases hg.2 with e | ⟨g, e, hge⟩
    · rw [e]; exact h3
    · rw [e]; intro e2; cases e2; omega
  have hc : Chg (· = p) w1 (w1.setCell ⟨p, 0, none⟩ v') := Chg.set _ rfl
  refine ⟨fun b => b = p ∨ v'.ownBlock = some b, ⟨v', heap_set_cells (i := 0) v' hx, hc.row hr (fun b hb e => hn (by rw [hb, e])), hn, fun b => Iff.rfl⟩, ?_, fun b hb => ?_⟩
  · exact (hg.1.mono (fun b hb _ => (h4 b).2 (.inr hb))).trans hc (fun b hb _ => (h4 b).2 (.inl hb))
  · rcases hb with hb | hb
    · exact .inl ((h4 b).2 (.inl hb))
    · rcases hg.2 with e | ⟨g, e, hge⟩
      · exact .inl ((h4 b).2 (.inr (by rw [← e]; exact hb)))
      · rw [e] at hb; cases hb; exact .inr hge
set_option maxRecDepth 100000 in
set_option maxHeartbeats 4000000 in
theorem put_byte (h : WrAt F w p l) (hl : l.length ≤ 140737488355000) {x : Nat} (hx : x < 256) :
    Calls Tryz.prog 116 #[.pointer (some ⟨p, 0, none⟩), .int .u8 (x : Int)] w fun e w' => e = .returned (.int .i64 0) ∧ WrStep F w w' p (l ++ be 1 x) := by
  obtain ⟨v, h1, h2, h3, h4⟩ := h
  obtain ⟨va, vc, rfl, _, _⟩ := RowAt.of_owns h2
  have c0 := cell_of_heap h1 (i := 0) (v := .slice va l.length vc) (by rfl)
  have hfm := form_any (w := w.drew) h2.drew (by omega) (k := 1) (by omega) (x := x) (by omega)
  have hx0 : (0 : Int) ≤ (x : Int) := by omega
  have hx1 : (x : Int) < 18446744073709551616 := by omega
  have hcv : IntKind.u64.wrap (x : Int) = (x : Int) := by rw [show IntKind.u64.wrap (x : Int) = (x : Int) % 18446744073709551616 from by simp [IntKind.wrap, IntKind.bits, IntKind.signed]]; omega
  have cW := width8_any
  go_enter Tryz.func116, Tryz.ntmps116
  go_wp2_with fail
  refine wp_region_held_drew (S := fun _ => True) (by kernel_rfl) (trivial) (fun hHeld => ?_)
  refine wpAnyH_take (i := 0) (v := ?_) rfl (by kernel_rfl) (by kernel_rfl) (by kernel_rfl) (fun _ _ _ h => h) (Or.inl ⟨by rfl, ?_⟩) hHeld ?_
  rotate_left
  · intro w hSw; (try dsimp only at hSw); go_simp
    all_goals (with_reducible rfl)
  (try simp only [Act.put, List.getElem_toArray, List.getElem_cons_succ, List.getElem_cons_zero, List.setIfInBounds_toArray, List.set_cons_zero, List.set_cons_succ])
  refine wpAnyH_take (i := 1) (v := ?_) rfl (by kernel_rfl) (by kernel_rfl) (by kernel_rfl) (fun _ _ _ h => h) (Or.inl ⟨by rfl, ?_⟩) hHeld ?_
  rotate_left
  · intro w hSw; (try dsimp only at hSw); go_simp
    all_goals (with_reducible rfl)
  (try simp only [Act.put, List.getElem_toArray, List.getElem_cons_succ, List.getElem_cons_zero, List.setIfInBounds_toArray, List.set_cons_zero, List.set_cons_succ])
  refine wpAnyH_take (i := 6) (v := ?_) rfl (by kernel_rfl) (by kernel_rfl) (by kernel_rfl) (fun _ _ _ h => h) (Or.inl ⟨by rfl, ?_⟩) hHeld ?_
  rotate_left
  · intro w hSw; (try dsimp only at hSw); go_simp
    all_goals (with_reducible rfl)
  (try simp only [Act.put, List.getElem_toArray, List.getElem_cons_succ, List.getElem_cons_zero, List.setIfInBounds_toArray, List.set_cons_zero, List.set_cons_succ])
  refine wpAnyH_take (i := 2) (v := ?_) rfl (by kernel_rfl) (by kernel_rfl) (by kernel_rfl) (fun _ _ _ h => h) (Or.inl ⟨by rfl, ?_⟩) hHeld ?_
  rotate_left
  · intro w hSw; (try dsimp only at hSw); go_simp
    all_goals (with_reducible rfl)
  (try simp only [Act.put, List.getElem_toArray, List.getElem_cons_succ, List.getElem_cons_zero, List.setIfInBounds_toArray, List.set_cons_zero, List.set_cons_succ])
  refine wpAnyH_take (i := 3) (v := ?_) rfl (by kernel_rfl) (by kernel_rfl) (by kernel_rfl) (fun _ _ _ h => h) (Or.inl ⟨by rfl, ?_⟩) hHeld ?_
  rotate_left
  · intro w hSw; (try dsimp only at hSw); go_simp
    all_goals (with_reducible rfl)
  (try simp only [Act.put, List.getElem_toArray, List.getElem_cons_succ, List.getElem_cons_zero, List.setIfInBounds_toArray, List.set_cons_zero, List.set_cons_succ])
  refine wpAnyH_take (i := 7) (v := ?_) rfl (by kernel_rfl) (by kernel_rfl) (by kernel_rfl) (fun _ _ _ h => h) (Or.inl ⟨by rfl, ?_⟩) hHeld ?_
  rotate_left
  · intro w hSw; (try dsimp only at hSw); go_simp
    all_goals (with_reducible rfl)
  (try simp only [Act.put, List.getElem_toArray, List.getElem_cons_succ, List.getElem_cons_zero, List.setIfInBounds_toArray, List.set_cons_zero, List.set_cons_succ])
  refine wpAnyH_ready (rs := [4, 5]) (by kernel_rfl) (by simp) ?_
  refine (AllReadyH.cons rfl (fun K hK => ?_) (AllReadyH.cons rfl (fun K hK => ?_) (AllReadyH.nil)))
  · go_simp
    refine hK.out _ _ trivial (fun hHeld => ?_)
    clear hK K
    (try simp only [Act.put, List.getElem_toArray, List.getElem_cons_succ, List.getElem_cons_zero, List.setIfInBounds_toArray, List.set_cons_zero, List.set_cons_succ])
    refine wpAnyH_ready (rs := [5]) (by kernel_rfl) (by simp) ?_
    refine (AllReadyH.cons rfl (fun K hK => ?_) (AllReadyH.nil))
    go_simp
    go_wp2_with (go_at_call 156; refine (cW _).mono ?_; rintro _ wz ⟨rfl, rfl⟩)
    refine hK.out _ _ trivial (fun hHeld => ?_)
    clear hK K
    (try simp only [Act.put, List.getElem_toArray, List.getElem_cons_succ, List.getElem_cons_zero, List.setIfInBounds_toArray, List.set_cons_zero, List.set_cons_succ])
    refine wpAnyH_ready (rs := [8]) (by kernel_rfl) (by simp) ?_
    refine (AllReadyH.cons rfl (fun K hK => ?_) (AllReadyH.nil))
    go_simp
    go_wp2_with (go_at_call 155; refine hfm.mono ?_; rintro _ w2 ⟨v2, rfl, hr2, hg2⟩)
    obtain ⟨wa, wc, rfl, _, _⟩ := RowAt.of_owns hr2
    have hx2 := hg2.1.obj (show w.drew.heap[p]? = _ from h1) h3
    have e0 := cell_of_heap hx2 (i := 0) (v := .slice va l.length vc) (by rfl)
    have z0 := frozen_of_heap (i := 0) hx2
    refine hK.out _ _ trivial (fun hHeld => ?_)
    clear hK K
    (try simp only [Act.put, List.getElem_toArray, List.getElem_cons_succ, List.getElem_cons_zero, List.setIfInBounds_toArray, List.set_cons_zero, List.set_cons_succ])
    refine wpAnyH_take (i := 9) (v := ?_) rfl (by kernel_rfl) (by kernel_rfl) (by kernel_rfl) (fun _ _ _ h => h) (Or.inl ⟨by rfl, ?_⟩) hHeld ?_
    rotate_left
    · intro w hSw; (try dsimp only at hSw); go_simp
      all_goals (with_reducible rfl)
    (try simp only [Act.put, List.getElem_toArray, List.getElem_cons_succ, List.getElem_cons_zero, List.setIfInBounds_toArray, List.set_cons_zero, List.set_cons_succ])
    refine wpAnyH_take (i := 10) (v := ?_) rfl (by kernel_rfl) (by kernel_rfl) (by kernel_rfl) (fun _ _ _ h => h) (Or.inl ⟨by rfl, ?_⟩) hHeld ?_
    rotate_left
    · intro w hSw; (try dsimp only at hSw); go_simp
      all_goals (with_reducible rfl)
    (try simp only [Act.put, List.getElem_toArray, List.getElem_cons_succ, List.getElem_cons_zero, List.setIfInBounds_toArray, List.set_cons_zero, List.set_cons_succ])
    refine wpAnyH_ready (rs := [11]) (by kernel_rfl) (by simp) ?_
    refine (AllReadyH.cons rfl (fun K hK => ?_) (AllReadyH.nil))
    go_simp
    refine hK.out _ _ trivial (fun hHeld => ?_)
    clear hK K
    (try simp only [Act.put, List.getElem_toArray, List.getElem_cons_succ, List.getElem_cons_zero, List.setIfInBounds_toArray, List.set_cons_zero, List.set_cons_succ])
    refine wpAnyH_done (by kernel_rfl) ?_ _
    clear hHeld
    have HW := Lib.hid (WrAt.put (w := w.drew) (l := l) (l' := l ++ be 1 x) (show w.drew.heap[p]? = _ from h1) h2.drew h3 h4 (by rw [List.length_append, be_len, List.map_append]; exact hr2) hg2)
    clear hr2 hg2
    go_wp2
    go_ret
    exact ⟨rfl, HW.out.of_drew⟩
  · go_simp
    go_wp2_with (go_at_call 156; refine (cW _).mono ?_; rintro _ wz ⟨rfl, rfl⟩)
    refine hK.out _ _ trivial (fun hHeld => ?_)
    clear hK K
    (try simp only [Act.put, List.getElem_toArray, List.getElem_cons_succ, List.getElem_cons_zero, List.setIfInBounds_toArray, List.set_cons_zero, List.set_cons_succ])
    refine wpAnyH_ready (rs := [4]) (by kernel_rfl) (by simp) ?_
    refine (AllReadyH.cons rfl (fun K hK => ?_) (AllReadyH.nil))
    go_simp
    refine hK.out _ _ trivial (fun hHeld => ?_)
    clear hK K
    (try simp only [Act.put, List.getElem_toArray, List.getElem_cons_succ, List.getElem_cons_zero, List.setIfInBounds_toArray, List.set_cons_zero, List.set_cons_succ])
    refine wpAnyH_ready (rs := [8]) (by kernel_rfl) (by simp) ?_
    refine (AllReadyH.cons rfl (fun K hK => ?_) (AllReadyH.nil))
    go_simp
    go_wp2_with (go_at_call 155; refine hfm.mono ?_; rintro _ w2 ⟨v2, rfl, hr2, hg2⟩)
    obtain ⟨wa, wc, rfl, _, _⟩ := RowAt.of_owns hr2
    have hx2 := hg2.1.obj (show w.drew.heap[p]? = _ from h1) h3
    have e0 := cell_of_heap hx2 (i := 0) (v := .slice va l.length vc) (by rfl)
    have z0 := frozen_of_heap (i := 0) hx2
    refine hK.out _ _ trivial (fun hHeld => ?_)
    clear hK K
    (try simp only [Act.put, List.getElem_toArray, List.getElem_cons_succ, List.getElem_cons_zero, List.setIfInBounds_toArray, List.set_cons_zero, List.set_cons_succ])
    refine wpAnyH_take (i := 9) (v := ?_) rfl (by kernel_rfl) (by kernel_rfl) (by kernel_rfl) (fun _ _ _ h => h) (Or.inl ⟨by rfl, ?_⟩) hHeld ?_
    rotate_left
    · intro w hSw; (try dsimp only at hSw); go_simp
      all_goals (with_reducible rfl)
    (try simp only [Act.put, List.getElem_toArray, List.getElem_cons_succ, List.getElem_cons_zero, List.setIfInBounds_toArray, List.set_cons_zero, List.set_cons_succ])
    refine wpAnyH_take (i := 10) (v := ?_) rfl (by kernel_rfl) (by kernel_rfl) (by kernel_rfl) (fun _ _ _ h => h) (Or.inl ⟨by rfl, ?_⟩) hHeld ?_
    rotate_left
    · intro w hSw; (try dsimp only at hSw); go_simp
      all_goals (with_reducible rfl)
    (try simp only [Act.put, List.getElem_toArray, List.getElem_cons_succ, List.getElem_cons_zero, List.setIfInBounds_toArray, List.set_cons_zero, List.set_cons_succ])
    refine wpAnyH_ready (rs := [11]) (by kernel_rfl) (by simp) ?_
    refine (AllReadyH.cons rfl (fun K hK => ?_) (AllReadyH.nil))
    go_simp
    refine hK.out _ _ trivial (fun hHeld => ?_)
    clear hK K
    (try simp only [Act.put, List.getElem_toArray, List.getElem_cons_succ, List.getElem_cons_zero, List.setIfInBounds_toArray, List.set_cons_zero, List.set_cons_succ])
    refine wpAnyH_done (by kernel_rfl) ?_ _
    clear hHeld
    have HW := Lib.hid (WrAt.put (w := w.drew) (l := l) (l' := l ++ be 1 x) (show w.drew.heap[p]? = _ from h1) h2.drew h3 h4 (by rw [List.length_append, be_len, List.map_append]; exact hr2) hg2)
    clear hr2 hg2
    go_wp2
    go_ret
    exact ⟨rfl, HW.out.of_drew⟩
set_option maxRecDepth 100000 in
set_option maxHeartbeats 4000000 in
theorem put_uint64 (h : WrAt F w p l) (hl : l.length ≤ 140737488355000) {x : Nat} (hx : x < 18446744073709551616) :
    Calls Tryz.prog 154 #[.pointer (some ⟨p, 0, none⟩), .int .u64 (x : Int)] w fun e w' => e = .returned (.int .i64 0) ∧ WrStep F w w' p (l ++ be 8 x) := by
  obtain ⟨v, h1, h2, h3, h4⟩ := h
  obtain ⟨va, vc, rfl, _, _⟩ := RowAt.of_owns h2
  have c0 := cell_of_heap h1 (i := 0) (v := .slice va l.length vc) (by rfl)
  have hfm := form_any (w := w.drew) h2.drew (by omega) (k := 8) (by omega) (x := x) (by omega)
  have hx0 : (0 : Int) ≤ (x : Int) := by omega
  have hx1 : (x : Int) < 18446744073709551616 := by omega
  have hcv : IntKind.u64.wrap (x : Int) = (x : Int) := by rw [show IntKind.u64.wrap (x : Int) = (x : Int) % 18446744073709551616 from by simp [IntKind.wrap, IntKind.bits, IntKind.signed]]; omega
  have cW := width64_any
  go_enter Tryz.func154, Tryz.ntmps154
  go_wp2_with fail
  refine wp_region_held_drew (S := fun _ => True) (by kernel_rfl) (trivial) (fun hHeld => ?_)
  refine wpAnyH_take (i := 0) (v := ?_) rfl (by kernel_rfl) (by kernel_rfl) (by kernel_rfl) (fun _ _ _ h => h) (Or.inl ⟨by rfl, ?_⟩) hHeld ?_
  rotate_left
  · intro w hSw; (try dsimp only at hSw); go_simp
    all_goals (with_reducible rfl)
  (try simp only [Act.put, List.getElem_toArray, List.getElem_cons_succ, List.getElem_cons_zero, List.setIfInBounds_toArray, List.set_cons_zero, List.set_cons_succ])
  refine wpAnyH_take (i := 1) (v := ?_) rfl (by kernel_rfl) (by kernel_rfl) (by kernel_rfl) (fun _ _ _ h => h) (Or.inl ⟨by rfl, ?_⟩) hHeld ?_
  rotate_left
  · intro w hSw; (try dsimp only at hSw); go_simp
    all_goals (with_reducible rfl)
  (try simp only [Act.put, List.getElem_toArray, List.getElem_cons_succ, List.getElem_cons_zero, List.setIfInBounds_toArray, List.set_cons_zero, List.set_cons_succ])
  refine wpAnyH_take (i := 6) (v := ?_) rfl (by kernel_rfl) (by kernel_rfl) (by kernel_rfl) (fun _ _ _ h => h) (Or.inl ⟨by rfl, ?_⟩) hHeld ?_
  rotate_left
  · intro w hSw; (try dsimp only at hSw); go_simp
    all_goals (with_reducible rfl)
  (try simp only [Act.put, List.getElem_toArray, List.getElem_cons_succ, List.getElem_cons_zero, List.setIfInBounds_toArray, List.set_cons_zero, List.set_cons_succ])
  refine wpAnyH_take (i := 2) (v := ?_) rfl (by kernel_rfl) (by kernel_rfl) (by kernel_rfl) (fun _ _ _ h => h) (Or.inl ⟨by rfl, ?_⟩) hHeld ?_
  rotate_left
  · intro w hSw; (try dsimp only at hSw); go_simp
    all_goals (with_reducible rfl)
  (try simp only [Act.put, List.getElem_toArray, List.getElem_cons_succ, List.getElem_cons_zero, List.setIfInBounds_toArray, List.set_cons_zero, List.set_cons_succ])
  refine wpAnyH_take (i := 3) (v := ?_) rfl (by kernel_rfl) (by kernel_rfl) (by kernel_rfl) (fun _ _ _ h => h) (Or.inl ⟨by rfl, ?_⟩) hHeld ?_
  rotate_left
  · intro w hSw; (try dsimp only at hSw); go_simp
    all_goals (with_reducible rfl)
  (try simp only [Act.put, List.getElem_toArray, List.getElem_cons_succ, List.getElem_cons_zero, List.setIfInBounds_toArray, List.set_cons_zero, List.set_cons_succ])
  refine wpAnyH_ready (rs := [4, 5]) (by kernel_rfl) (by simp) ?_
  refine (AllReadyH.cons rfl (fun K hK => ?_) (AllReadyH.cons rfl (fun K hK => ?_) (AllReadyH.nil)))
  · go_simp
    refine hK.out _ _ trivial (fun hHeld => ?_)
    clear hK K
    (try simp only [Act.put, List.getElem_toArray, List.getElem_cons_succ, List.getElem_cons_zero, List.setIfInBounds_toArray, List.set_cons_zero, List.set_cons_succ])
    refine wpAnyH_ready (rs := [5]) (by kernel_rfl) (by simp) ?_
    refine (AllReadyH.cons rfl (fun K hK => ?_) (AllReadyH.nil))
    go_simp
    go_wp2_with (go_at_call 163; refine (cW _).mono ?_; rintro _ wz ⟨rfl, rfl⟩)
    refine hK.out _ _ trivial (fun hHeld => ?_)
    clear hK K
    (try simp only [Act.put, List.getElem_toArray, List.getElem_cons_succ, List.getElem_cons_zero, List.setIfInBounds_toArray, List.set_cons_zero, List.set_cons_succ])
    refine wpAnyH_ready (rs := [7]) (by kernel_rfl) (by simp) ?_
    refine (AllReadyH.cons rfl (fun K hK => ?_) (AllReadyH.nil))
    go_simp
    go_wp2_with (go_at_call 155; refine hfm.mono ?_; rintro _ w2 ⟨v2, rfl, hr2, hg2⟩)
    obtain ⟨wa, wc, rfl, _, _⟩ := RowAt.of_owns hr2
    have hx2 := hg2.1.obj (show w.drew.heap[p]? = _ from h1) h3
    have e0 := cell_of_heap hx2 (i := 0) (v := .slice va l.length vc) (by rfl)
    have z0 := frozen_of_heap (i := 0) hx2
    refine hK.out _ _ trivial (fun hHeld => ?_)
    clear hK K
    (try simp only [Act.put, List.getElem_toArray, List.getElem_cons_succ, List.getElem_cons_zero, List.setIfInBounds_toArray, List.set_cons_zero, List.set_cons_succ])
    refine wpAnyH_take (i := 8) (v := ?_) rfl (by kernel_rfl) (by kernel_rfl) (by kernel_rfl) (fun _ _ _ h => h) (Or.inl ⟨by rfl, ?_⟩) hHeld ?_
    rotate_left
    · intro w hSw; (try dsimp only at hSw); go_simp
      all_goals (with_reducible rfl)
    (try simp only [Act.put, List.getElem_toArray, List.getElem_cons_succ, List.getElem_cons_zero, List.setIfInBounds_toArray, List.set_cons_zero, List.set_cons_succ])
    refine wpAnyH_take (i := 9) (v := ?_) rfl (by kernel_rfl) (by kernel_rfl) (by kernel_rfl) (fun _ _ _ h => h) (Or.inl ⟨by rfl, ?_⟩) hHeld ?_
    rotate_left
    · intro w hSw; (try dsimp only at hSw); go_simp
      all_goals (with_reducible rfl)
    (try simp only [Act.put, List.getElem_toArray, List.getElem_cons_succ, List.getElem_cons_zero, List.setIfInBounds_toArray, List.set_cons_zero, List.set_cons_succ])
    refine wpAnyH_ready (rs := [10]) (by kernel_rfl) (by simp) ?_
    refine (AllReadyH.cons rfl (fun K hK => ?_) (AllReadyH.nil))
    go_simp
    refine hK.out _ _ trivial (fun hHeld => ?_)
    clear hK K
    (try simp only [Act.put, List.getElem_toArray, List.getElem_cons_succ, List.getElem_cons_zero, List.setIfInBounds_toArray, List.set_cons_zero, List.set_cons_succ])
    refine wpAnyH_done (by kernel_rfl) ?_ _
    clear hHeld
    have HW := Lib.hid (WrAt.put (w := w.drew) (l := l) (l' := l ++ be 8 x) (show w.drew.heap[p]? = _ from h1) h2.drew h3 h4 (by rw [List.length_append, be_len, List.map_append]; exact hr2) hg2)
    clear hr2 hg2
    go_wp2
    go_ret
    exact ⟨rfl, HW.out.of_drew⟩
  · go_simp
    go_wp2_with (go_at_call 163; refine (cW _).mono ?_; rintro _ wz ⟨rfl, rfl⟩)
    refine hK.out _ _ trivial (fun hHeld => ?_)
    clear hK K
    (try simp only [Act.put, List.getElem_toArray, List.getElem_cons_succ, List.getElem_cons_zero, List.setIfInBounds_toArray, List.set_cons_zero, List.set_cons_succ])
    refine wpAnyH_ready (rs := [4]) (by kernel_rfl) (by simp) ?_
    refine (AllReadyH.cons rfl (fun K hK => ?_) (AllReadyH.nil))
    go_simp
    refine hK.out _ _ trivial (fun hHeld => ?_)
    clear hK K
    (try simp only [Act.put, List.getElem_toArray, List.getElem_cons_succ, List.getElem_cons_zero, List.setIfInBounds_toArray, List.set_cons_zero, List.set_cons_succ])
    refine wpAnyH_ready (rs := [7]) (by kernel_rfl) (by simp) ?_
    refine (AllReadyH.cons rfl (fun K hK => ?_) (AllReadyH.nil))
    go_simp
    go_wp2_with (go_at_call 155; refine hfm.mono ?_; rintro _ w2 ⟨v2, rfl, hr2, hg2⟩)
    obtain ⟨wa, wc, rfl, _, _⟩ := RowAt.of_owns hr2
    have hx2 := hg2.1.obj (show w.drew.heap[p]? = _ from h1) h3
    have e0 := cell_of_heap hx2 (i := 0) (v := .slice va l.length vc) (by rfl)
    have z0 := frozen_of_heap (i := 0) hx2
    refine hK.out _ _ trivial (fun hHeld => ?_)
    clear hK K
    (try simp only [Act.put, List.getElem_toArray, List.getElem_cons_succ, List.getElem_cons_zero, List.setIfInBounds_toArray, List.set_cons_zero, List.set_cons_succ])
    refine wpAnyH_take (i := 8) (v := ?_) rfl (by kernel_rfl) (by kernel_rfl) (by kernel_rfl) (fun _ _ _ h => h) (Or.inl ⟨by rfl, ?_⟩) hHeld ?_
    rotate_left
    · intro w hSw; (try dsimp only at hSw); go_simp
      all_goals (with_reducible rfl)
    (try simp only [Act.put, List.getElem_toArray, List.getElem_cons_succ, List.getElem_cons_zero, List.setIfInBounds_toArray, List.set_cons_zero, List.set_cons_succ])
    refine wpAnyH_take (i := 9) (v := ?_) rfl (by kernel_rfl) (by kernel_rfl) (by kernel_rfl) (fun _ _ _ h => h) (Or.inl ⟨by rfl, ?_⟩) hHeld ?_
    rotate_left
    · intro w hSw; (try dsimp only at hSw); go_simp
      all_goals (with_reducible rfl)
    (try simp only [Act.put, List.getElem_toArray, List.getElem_cons_succ, List.getElem_cons_zero, List.setIfInBounds_toArray, List.set_cons_zero, List.set_cons_succ])
    refine wpAnyH_ready (rs := [10]) (by kernel_rfl) (by simp) ?_
    refine (AllReadyH.cons rfl (fun K hK => ?_) (AllReadyH.nil))
    go_simp
    refine hK.out _ _ trivial (fun hHeld => ?_)
    clear hK K
    (try simp only [Act.put, List.getElem_toArray, List.getElem_cons_succ, List.getElem_cons_zero, List.setIfInBounds_toArray, List.set_cons_zero, List.set_cons_succ])
    refine wpAnyH_done (by kernel_rfl) ?_ _
    clear hHeld
    have HW := Lib.hid (WrAt.put (w := w.drew) (l := l) (l' := l ++ be 8 x) (show w.drew.heap[p]? = _ from h1) h2.drew h3 h4 (by rw [List.length_append, be_len, List.map_append]; exact hr2) hg2)
    clear hr2 hg2
    go_wp2
    go_ret
    exact ⟨rfl, HW.out.of_drew⟩
end

end Go.Proofs.YtlmdpcaikhdenaaGreat
/- Wire: the reader. -/
namespace Go.Proofs.YtlmdpcaikhdenaaGreat
open Go.RowKit Go.Maps

/-- a reader lies at p: of the bytes b it has read k -/
structure RdAt (w : World) (p : Nat) (a : Option Addr) (c : Nat) (b : List UInt8) (k : Nat) : Prop where
  cells : w.heap[p]? = some (.cells #[.slice a b.length c, .int .i64 (k : Int)] 219 (0, 0))
  row : RowAt w a (b.map bv)
  off : ∀ y, a = some y → y.block ≠ p
  le : k ≤ b.length
  cap : b.length ≤ c
  nil : a = none → c = 0
  small : b.length ≤ 140737488355328
section
variable {w w' : World} {p c k : Nat} {a : Option Addr} {b : List UInt8}
theorem RdAt.below (h : RdAt w p a c b k) (hb : Below w.heap.size w w') : RdAt w' p a c b k := { h with cells := (hb.block p (heap_lt h.cells)).trans h.cells, row := h.row.below hb }
theorem RdAt.lt (h : RdAt w p a c b k) (hne : b ≠ []) {y : Addr} (e : a = some y) : y.block < w.heap.size := by
  obtain ⟨g, off, e2, hcell⟩ := h.row (by simpa using hne)
  rw [e2] at e
  cases e
  cases b with
  | nil => exact absurd rfl hne
  | cons x r => exact cell_lt (hcell 0 (bv x) (by simp))
/-- the reader elsewhere, its cells as they are there -/
theorem RdAt.moved {O : Nat → Prop} {k' : Nat} (h : RdAt w p a c b k) (hc : Chg O w w') (hO : b ≠ [] → ∀ y, a = some y → ¬ O y.block) (hx : w'.heap[p]? = some (.cells #[.slice a b.length c, .int .i64 (k' : Int)] 219 (0, 0))) (hk : k' ≤ b.length) : RdAt w' p a c b k' :=
  { h with cells := hx, le := hk, row := h.row.chg hc (fun hne x hx => hO (by simpa using hne) x hx) }
set_option maxHeartbeats 1000000 in
theorem left_any5 (h : RdAt w p a c b k) : Calls Tryz.prog 128 #[.pointer (some ⟨p, 0, none⟩)] w fun e w' => e = .returned (.int .i64 ((b.length : Int) - (k : Int))) ∧ Below w.heap.size w w' := by
  have c0 := cell_of_heap h.cells (i := 0) (v := .slice a b.length c) (by rfl)
  have c1 := cell_of_heap h.cells (i := 1) (v := .int .i64 (k : Int)) (by rfl)
  have h1 := h.le
  have h2 := h.small
  have hs : IntKind.i64.wrap ((b.length : Int) - (k : Int)) = (b.length : Int) - (k : Int) := Go.IntWalk.i64_in _ (by omega)
  go_enter Tryz.func128, Tryz.ntmps128
  go_wp2
  go_quiet (fail)
  go_wp2
  go_ret
  exact ⟨rfl, below_drewN (Below.refl _ _) _⟩
set_option maxHeartbeats 2000000 in
theorem next_short (h : RdAt w p a c b k) {n : Nat} (hn : b.length < k + n) (hn2 : n ≤ 9223372036854775807) (fv : Value) : Calls Tryz.prog 125 #[.pointer (some ⟨p, 0, none⟩), .int .i64 (n : Int), fv] w fun e w' => e = .returned (.int .i64 110) ∧ Below w.heap.size w w' := by
  have hl := left_any5 h
  have h1 := h.le
  have g1 : decide ((b.length : Int) - (k : Int) < (n : Int)) = true := by simp; omega
  go_enter Tryz.func125, Tryz.ntmps125
  go_wp2_with (go_at_call 128; refine hl.mono ?_; rintro _ w1 ⟨rfl, hb1⟩)
  go_ret
  exact ⟨rfl, hb1⟩
/-- what next leaves: the closure's answer, and the place as it was where that is an error -/
def NextPost (p k : Nat) (Q : Int → World → Prop) (e : Ending) (w' : World) : Prop := ∃ er w1, e = .returned (.int .i64 er) ∧ Q er w1 ∧ ((er = 0 ∧ w' = w1) ∨ (er ≠ 0 ∧ w' = w1.setCell ⟨p, 1, none⟩ (.int .i64 (k : Int))))
set_option maxRecDepth 100000 in
set_option maxHeartbeats 4000000 in
theorem next_any (h : RdAt w p a c b k) {n : Nat} (hn : k + n ≤ b.length) (N : FuncId) (caps : Array Value) (henter : ∀ args w, (callFunc N args).run Tryz.prog w = .ok (.enter N args) w) (Q : Int → World → Prop)
    (hcall : ∀ W, Chg (· = p) w W → RdAt W p a c b (k + n) → Calls Tryz.prog N (#[.slice (subAt a c k) n (c - k)] ++ caps) W fun e w' => ∃ er : Int, e = .returned (.int .i64 er) ∧ Q er w')
    (hQ : ∀ er w', Q er w' → er ≠ 0 → ∃ v, w'.heap[p]? = some (.cells #[.slice a b.length c, v] 219 (0, 0))) :
    Calls Tryz.prog 125 #[.pointer (some ⟨p, 0, none⟩), .int .i64 (n : Int), .func (.func N) #[] caps] w (NextPost p k Q) := by
  have hl := left_any5 h
  have hpl := heap_lt h.cells
  have h1 := h.le
  have h2 := h.small
  have h3 := h.cap
  have g1 : decide ((b.length : Int) - (k : Int) < (n : Int)) = false := by simp; omega
  have hsl := run_slice_lh' (P := Tryz.prog) 26 5 Tryz.underlying26 Tryz.sizeOf5 a b.length c k (k + n) (by omega) (by omega)
  have hcs : ((k + n : Nat) : Int) = (k : Int) + (n : Int) := by omega
  rw [hcs, show k + n - k = n from by omega] at hsl
  have H := Lib.hid h
  have HC := Lib.hid hcall
  have HQ := Lib.hid hQ
  have HCS := Lib.hid hcs
  clear h hcall hQ hcs
  go_enter Tryz.func125, Tryz.ntmps125
  go_wp2_with (first
    | (go_at_call 128; refine hl.mono ?_; rintro _ w1 ⟨rfl, hb1⟩; have hx1 := (hb1.block p hpl).trans H.out.cells; have d0 := cell_of_heap hx1 (i := 0) (v := .slice a b.length c) (by rfl); have d1 := cell_of_heap hx1 (i := 1) (v := .int .i64 (k : Int)) (by rfl); have z1 := frozen_of_heap (i := 1) hx1))
  have hcs1 : Chg (· = p) w1 (w1.setCell ⟨p, 1, none⟩ (.int .i64 ((k : Int) + (n : Int)))) := Chg.set _ rfl
  have hcw : Chg (· = p) w (w1.setCell ⟨p, 1, none⟩ (.int .i64 ((k : Int) + (n : Int)))) := (Chg.of_below hb1).trans hcs1 (fun _ h _ => h)
  have hR : RdAt (w1.setCell ⟨p, 1, none⟩ (.int .i64 ((k : Int) + (n : Int)))) p a c b (k + n) := H.out.moved hcw (fun _ y e => H.out.off y e) (by rw [HCS.out]; exact heap_set_cells (i := 1) (.int .i64 ((k : Int) + (n : Int))) hx1) hn
  have hcl := HC.out _ hcw hR
  obtain ⟨w2, hw2⟩ : ∃ w2, w1.setCell ⟨p, 1, none⟩ (.int .i64 ((k : Int) + (n : Int))) = w2 := ⟨_, rfl⟩
  rw [hw2] at hcl ⊢
  clear hw2 hR hcw d0 d1 z1 hx1
  refine hcl.mono ?_
  rintro _ w3 ⟨er, rfl, hq⟩
  have hq2 := HQ.out er w3 hq
  have HQ3 := Lib.hid hq
  clear hq
  by_cases he : er = 0
  · subst he
    clear hq2
    go_wp2
    go_ret
    exact ⟨0, w3, rfl, HQ3.out, .inl ⟨rfl, rfl⟩⟩
  · obtain ⟨v, hx3⟩ := hq2 he
    have z3 := frozen_of_heap (i := 1) hx3
    have hsz : p < w3.heap.size := heap_lt hx3
    have e1 : w3.cell? ⟨p, 1, none⟩ = some v := cell_of_heap hx3 (i := 1) rfl
    have g2 : (er != 0) = true := by simpa using he
    have HE := Lib.hid he
    clear he hx3
    go_wp2
    go_ret
    exact ⟨er, w3, rfl, HQ3.out, .inr ⟨HE.out, rfl⟩⟩
end

end Go.Proofs.YtlmdpcaikhdenaaGreat
