/- Texts of this claim, one behind the other: FaE. -/
import Derived.Test.YtlmdpcaikhdenaaGreatSl32
import Derived.Handy
set_option linter.unusedSimpArgs false
set_option linter.unusedVariables false
/- The device over the disk: the steps that take a name alone. (printed by gen/fmeth.py) -/
namespace Go.Proofs.YtlmdpcaikhdenaaGreat
open Go.RowKit Go.Maps

theorem enters_by1 : enters 258 := fun args w => by go_simp
theorem devCreate1_any (pd : Nat) (w : World) : Calls Tryz.prog 253 #[devV pd] w fun e w' => e = .returned (.func (.method "Create") #[devV pd] #[]) ∧ w = w' := by
  unfold devV
  go_enter Tryz.func253, Tryz.ntmps253
  go_wp2
  go_ret
  exact ⟨rfl, rfl⟩
set_option maxRecDepth 100000 in
set_option maxHeartbeats 4000000 in
theorem by1_Create {F1 G1 : Nat → Prop} {w : World} {pd pf bo bf bn : Nat} {s : DSt} {cs : Array Value} {e : TypeId} (h : One F1 G1 w pd s) (hx : w.heap[pf]? = some (.cells cs e (0, 0))) (hc1 : cs[1]? = some (devV pd)) {k : List UInt8} (hk : k.length ≤ maxLen) {N : Nat} (hok : s.Ok N) (hN : N + 1 < maxList)
    (c0 : w.cell? ⟨bo, 0, none⟩ = some (.func (.func 253) #[] #[])) (c1 : w.cell? ⟨bf, 0, none⟩ = some (.pointer (some ⟨pf, 0, none⟩))) (c2 : w.cell? ⟨bn, 0, none⟩ = some (.string ⟨k.toArray⟩)) (hF : ¬ F1 bo ∧ ¬ F1 bf ∧ ¬ F1 bn ∧ ¬ F1 pf) :
    Calls Tryz.prog 258 #[.pointer (some ⟨bo, 0, none⟩), .pointer (some ⟨bf, 0, none⟩), .pointer (some ⟨bn, 0, none⟩)] w fun e w' => e = .returned (.int .i64 ((s.create k).2 : Int)) ∧ ∃ F' G', One F' G' w' pd (s.create k).1 ∧ Moved F1 G1 F' G' w w' := by
  have cv := cell_of_heap hx hc1
  unfold devV at cv
  have hm := devCreate1_any pd
  unfold devV at hm
  have hd : One F1 G1 w.drew pd s := h.kept (O := fun _ => False) ((Chg.refl (fun _ => False) w).drew) (fun _ _ h => h) (fun _ _ h => h)
  have hcr := hd.create hk hok hN
  go_enter Tryz.func258, Tryz.ntmps258
  go_upto_region 1 with fail
  refine wp_region_held_drew (S := fun w' => w'.cell? ⟨bo, 0, none⟩ = some (.func (.func 253) #[] #[]) ∧ w'.cell? ⟨bf, 0, none⟩ = some (.pointer (some ⟨pf, 0, none⟩)) ∧ w'.cell? ⟨pf, 1, none⟩ = some (.iface 45 (.pointer (some ⟨pd, 0, none⟩))) ∧ w'.cell? ⟨bn, 0, none⟩ = some (.string ⟨k.toArray⟩)) (by kernel_rfl) (⟨c0, c1, cv, c2⟩) (fun hHeld => ?_)
  refine wpAnyH_take (i := 0) (v := ?_) rfl (by kernel_rfl) (by kernel_rfl) (by kernel_rfl) (fun _ _ _ h => h) (Or.inl ⟨by rfl, ?_⟩) hHeld ?_
  rotate_left
  · intro w hSw; (try dsimp only at hSw); go_simp
    all_goals (with_reducible rfl)
  (try simp only [Act.put, List.getElem_toArray, List.getElem_cons_succ, List.getElem_cons_zero, List.setIfInBounds_toArray, List.set_cons_zero, List.set_cons_succ])
  refine wpAnyH_take (i := 1) (v := ?_) rfl (by kernel_rfl) (by kernel_rfl) (by kernel_rfl) (fun _ _ _ h => h) (Or.inl ⟨by rfl, ?_⟩) hHeld ?_
  rotate_left
  · intro w hSw; (try dsimp only at hSw); go_simp
    all_goals (with_reducible rfl)
  (try simp only [Act.put, List.getElem_toArray, List.getElem_cons_succ, List.getElem_cons_zero, List.setIfInBounds_toArray, List.set_cons_zero, List.set_cons_succ])
  refine wpAnyH_take (i := 2) (v := ?_) rfl (by kernel_rfl) (by kernel_rfl) (by kernel_rfl) (fun _ _ _ h => h) (Or.inl ⟨by rfl, ?_⟩) hHeld ?_
  rotate_left
  · intro w hSw; (try dsimp only at hSw); go_simp
    all_goals (with_reducible rfl)
  (try simp only [Act.put, List.getElem_toArray, List.getElem_cons_succ, List.getElem_cons_zero, List.setIfInBounds_toArray, List.set_cons_zero, List.set_cons_succ])
  refine wpAnyH_take (i := 3) (v := ?_) rfl (by kernel_rfl) (by kernel_rfl) (by kernel_rfl) (fun _ _ _ h => h) (Or.inl ⟨by rfl, ?_⟩) hHeld ?_
  rotate_left
  · intro w hSw; (try dsimp only at hSw); go_simp
    all_goals (with_reducible rfl)
  (try simp only [Act.put, List.getElem_toArray, List.getElem_cons_succ, List.getElem_cons_zero, List.setIfInBounds_toArray, List.set_cons_zero, List.set_cons_succ])
  refine wpAnyH_take (i := 4) (v := ?_) rfl (by kernel_rfl) (by kernel_rfl) (by kernel_rfl) (fun _ _ _ h => h) (Or.inl ⟨by rfl, ?_⟩) hHeld ?_
  rotate_left
  · intro w hSw; (try dsimp only at hSw); go_simp
    all_goals (with_reducible rfl)
  (try simp only [Act.put, List.getElem_toArray, List.getElem_cons_succ, List.getElem_cons_zero, List.setIfInBounds_toArray, List.set_cons_zero, List.set_cons_succ])
  refine wpAnyH_take (i := 6) (v := ?_) rfl (by kernel_rfl) (by kernel_rfl) (by kernel_rfl) (fun _ _ _ h => h) (Or.inl ⟨by rfl, ?_⟩) hHeld ?_
  rotate_left
  · intro w hSw; (try dsimp only at hSw); go_simp
    all_goals (with_reducible rfl)
  (try simp only [Act.put, List.getElem_toArray, List.getElem_cons_succ, List.getElem_cons_zero, List.setIfInBounds_toArray, List.set_cons_zero, List.set_cons_succ])
  refine wpAnyH_ready (rs := [5]) (by kernel_rfl) (by simp) ?_
  refine AllReadyH.cons rfl (fun K hK => ?_) AllReadyH.nil
  go_simp
  go_wp2_with (go_at_call 253; refine (hm _).mono ?_; rintro _ w1 ⟨rfl, rfl⟩)
  refine hK.out _ _ (⟨c0, c1, cv, c2⟩) (fun hHeld => ?_)
  clear hK K
  (try simp only [Act.put, List.getElem_toArray, List.getElem_cons_succ, List.getElem_cons_zero, List.setIfInBounds_toArray, List.set_cons_zero, List.set_cons_succ])
  refine wpAnyH_ready (rs := [7]) (by kernel_rfl) (by simp) ?_
  refine AllReadyH.cons rfl (fun K hK => ?_) AllReadyH.nil
  go_simp
  go_wp2_with (go_at_call 220; refine hcr.mono ?_; rintro _ w2 ⟨rfl, F', G', ho, hmv⟩)
  have d0 := hmv.1.cell c0 hF.1
  have d1 := hmv.1.cell c1 hF.2.1
  have dv := hmv.1.cell cv hF.2.2.2
  have d2 := hmv.1.cell c2 hF.2.2.1
  
  refine hK.out _ _ (⟨d0, d1, dv, d2⟩) (fun hHeld => ?_)
  clear hK K
  (try simp only [Act.put, List.getElem_toArray, List.getElem_cons_succ, List.getElem_cons_zero, List.setIfInBounds_toArray, List.set_cons_zero, List.set_cons_succ])
  refine wpAnyH_take (i := 8) (v := ?_) rfl (by kernel_rfl) (by kernel_rfl) (by kernel_rfl) (fun _ _ _ h => h) (Or.inl ⟨by rfl, ?_⟩) hHeld ?_
  rotate_left
  · intro w hSw; (try dsimp only at hSw); go_simp
    all_goals (with_reducible rfl)
  (try simp only [Act.put, List.getElem_toArray, List.getElem_cons_succ, List.getElem_cons_zero, List.setIfInBounds_toArray, List.set_cons_zero, List.set_cons_succ])
  refine wpAnyH_done (by kernel_rfl) ?_ _
  clear hHeld
  have HM := Lib.hid (And.intro ho hmv)
  clear ho hmv hcr hm
  go_wp2
  go_ret
  exact ⟨rfl, F', G', HM.out.1, ((Chg.refl F1 w).drew).trans HM.out.2.1 (fun _ h _ => h), HM.out.2.2⟩
theorem devSync1_any (pd : Nat) (w : World) : Calls Tryz.prog 257 #[devV pd] w fun e w' => e = .returned (.func (.method "Sync") #[devV pd] #[]) ∧ w = w' := by
  unfold devV
  go_enter Tryz.func257, Tryz.ntmps257
  go_wp2
  go_ret
  exact ⟨rfl, rfl⟩
set_option maxRecDepth 100000 in
set_option maxHeartbeats 4000000 in
theorem by1_Sync {F1 G1 : Nat → Prop} {w : World} {pd pf bo bf bn : Nat} {s : DSt} {cs : Array Value} {e : TypeId} (h : One F1 G1 w pd s) (hx : w.heap[pf]? = some (.cells cs e (0, 0))) (hc1 : cs[1]? = some (devV pd)) {k : List UInt8} (hk : k.length ≤ maxLen) {N : Nat} (hok : s.Ok N) (hN : N + 1 < maxList)
    (c0 : w.cell? ⟨bo, 0, none⟩ = some (.func (.func 257) #[] #[])) (c1 : w.cell? ⟨bf, 0, none⟩ = some (.pointer (some ⟨pf, 0, none⟩))) (c2 : w.cell? ⟨bn, 0, none⟩ = some (.string ⟨k.toArray⟩)) (hF : ¬ F1 bo ∧ ¬ F1 bf ∧ ¬ F1 bn ∧ ¬ F1 pf) :
    Calls Tryz.prog 258 #[.pointer (some ⟨bo, 0, none⟩), .pointer (some ⟨bf, 0, none⟩), .pointer (some ⟨bn, 0, none⟩)] w fun e w' => e = .returned (.int .i64 ((s.sync k).2 : Int)) ∧ ∃ F' G', One F' G' w' pd (s.sync k).1 ∧ Moved F1 G1 F' G' w w' := by
  have cv := cell_of_heap hx hc1
  unfold devV at cv
  have hm := devSync1_any pd
  unfold devV at hm
  have hd : One F1 G1 w.drew pd s := h.kept (O := fun _ => False) ((Chg.refl (fun _ => False) w).drew) (fun _ _ h => h) (fun _ _ h => h)
  have hcr := hd.sync hk hok hN
  go_enter Tryz.func258, Tryz.ntmps258
  go_upto_region 1 with fail
  refine wp_region_held_drew (S := fun w' => w'.cell? ⟨bo, 0, none⟩ = some (.func (.func 257) #[] #[]) ∧ w'.cell? ⟨bf, 0, none⟩ = some (.pointer (some ⟨pf, 0, none⟩)) ∧ w'.cell? ⟨pf, 1, none⟩ = some (.iface 45 (.pointer (some ⟨pd, 0, none⟩))) ∧ w'.cell? ⟨bn, 0, none⟩ = some (.string ⟨k.toArray⟩)) (by kernel_rfl) (⟨c0, c1, cv, c2⟩) (fun hHeld => ?_)
  refine wpAnyH_take (i := 0) (v := ?_) rfl (by kernel_rfl) (by kernel_rfl) (by kernel_rfl) (fun _ _ _ h => h) (Or.inl ⟨by rfl, ?_⟩) hHeld ?_
  rotate_left
  · intro w hSw; (try dsimp only at hSw); go_simp
    all_goals (with_reducible rfl)
  (try simp only [Act.put, List.getElem_toArray, List.getElem_cons_succ, List.getElem_cons_zero, List.setIfInBounds_toArray, List.set_cons_zero, List.set_cons_succ])
  refine wpAnyH_take (i := 1) (v := ?_) rfl (by kernel_rfl) (by kernel_rfl) (by kernel_rfl) (fun _ _ _ h => h) (Or.inl ⟨by rfl, ?_⟩) hHeld ?_
  rotate_left
  · intro w hSw; (try dsimp only at hSw); go_simp
    all_goals (with_reducible rfl)
  (try simp only [Act.put, List.getElem_toArray, List.getElem_cons_succ, List.getElem_cons_zero, List.setIfInBounds_toArray, List.set_cons_zero, List.set_cons_succ])
  refine wpAnyH_take (i := 2) (v := ?_) rfl (by kernel_rfl) (by kernel_rfl) (by kernel_rfl) (fun _ _ _ h => h) (Or.inl ⟨by rfl, ?_⟩) hHeld ?_
  rotate_left
  · intro w hSw; (try dsimp only at hSw); go_simp
    all_goals (with_reducible rfl)
  (try simp only [Act.put, List.getElem_toArray, List.getElem_cons_succ, List.getElem_cons_zero, List.setIfInBounds_toArray, List.set_cons_zero, List.set_cons_succ])
  refine wpAnyH_take (i := 3) (v := ?_) rfl (by kernel_rfl) (by kernel_rfl) (by kernel_rfl) (fun _ _ _ h => h) (Or.inl ⟨by rfl, ?_⟩) hHeld ?_
  rotate_left
  · intro w hSw; (try dsimp only at hSw); go_simp
    all_goals (with_reducible rfl)
  (try simp only [Act.put, List.getElem_toArray, List.getElem_cons_succ, List.getElem_cons_zero, List.setIfInBounds_toArray, List.set_cons_zero, List.set_cons_succ])
  refine wpAnyH_take (i := 4) (v := ?_) rfl (by kernel_rfl) (by kernel_rfl) (by kernel_rfl) (fun _ _ _ h => h) (Or.inl ⟨by rfl, ?_⟩) hHeld ?_
  rotate_left
  · intro w hSw; (try dsimp only at hSw); go_simp
    all_goals (with_reducible rfl)
  (try simp only [Act.put, List.getElem_toArray, List.getElem_cons_succ, List.getElem_cons_zero, List.setIfInBounds_toArray, List.set_cons_zero, List.set_cons_succ])
  refine wpAnyH_take (i := 6) (v := ?_) rfl (by kernel_rfl) (by kernel_rfl) (by kernel_rfl) (fun _ _ _ h => h) (Or.inl ⟨by rfl, ?_⟩) hHeld ?_
  rotate_left
  · intro w hSw; (try dsimp only at hSw); go_simp
    all_goals (with_reducible rfl)
  (try simp only [Act.put, List.getElem_toArray, List.getElem_cons_succ, List.getElem_cons_zero, List.setIfInBounds_toArray, List.set_cons_zero, List.set_cons_succ])
  refine wpAnyH_ready (rs := [5]) (by kernel_rfl) (by simp) ?_
  refine AllReadyH.cons rfl (fun K hK => ?_) AllReadyH.nil
  go_simp
  go_wp2_with (go_at_call 257; refine (hm _).mono ?_; rintro _ w1 ⟨rfl, rfl⟩)
  refine hK.out _ _ (⟨c0, c1, cv, c2⟩) (fun hHeld => ?_)
  clear hK K
  (try simp only [Act.put, List.getElem_toArray, List.getElem_cons_succ, List.getElem_cons_zero, List.setIfInBounds_toArray, List.set_cons_zero, List.set_cons_succ])
  refine wpAnyH_ready (rs := [7]) (by kernel_rfl) (by simp) ?_
  refine AllReadyH.cons rfl (fun K hK => ?_) AllReadyH.nil
  go_simp
  go_wp2_with (go_at_call 225; refine hcr.mono ?_; rintro _ w2 ⟨rfl, F', G', ho, hmv⟩)
  have d0 := hmv.1.cell c0 hF.1
  have d1 := hmv.1.cell c1 hF.2.1
  have dv := hmv.1.cell cv hF.2.2.2
  have d2 := hmv.1.cell c2 hF.2.2.1
  
  refine hK.out _ _ (⟨d0, d1, dv, d2⟩) (fun hHeld => ?_)
  clear hK K
  (try simp only [Act.put, List.getElem_toArray, List.getElem_cons_succ, List.getElem_cons_zero, List.setIfInBounds_toArray, List.set_cons_zero, List.set_cons_succ])
  refine wpAnyH_take (i := 8) (v := ?_) rfl (by kernel_rfl) (by kernel_rfl) (by kernel_rfl) (fun _ _ _ h => h) (Or.inl ⟨by rfl, ?_⟩) hHeld ?_
  rotate_left
  · intro w hSw; (try dsimp only at hSw); go_simp
    all_goals (with_reducible rfl)
  (try simp only [Act.put, List.getElem_toArray, List.getElem_cons_succ, List.getElem_cons_zero, List.setIfInBounds_toArray, List.set_cons_zero, List.set_cons_succ])
  refine wpAnyH_done (by kernel_rfl) ?_ _
  clear hHeld
  have HM := Lib.hid (And.intro ho hmv)
  clear ho hmv hcr hm
  go_wp2
  go_ret
  exact ⟨rfl, F', G', HM.out.1, ((Chg.refl F1 w).drew).trans HM.out.2.1 (fun _ h _ => h), HM.out.2.2⟩
theorem devRemove1_any (pd : Nat) (w : World) : Calls Tryz.prog 256 #[devV pd] w fun e w' => e = .returned (.func (.method "Remove") #[devV pd] #[]) ∧ w = w' := by
  unfold devV
  go_enter Tryz.func256, Tryz.ntmps256
  go_wp2
  go_ret
  exact ⟨rfl, rfl⟩
set_option maxRecDepth 100000 in
set_option maxHeartbeats 4000000 in
theorem by1_Remove {F1 G1 : Nat → Prop} {w : World} {pd pf bo bf bn : Nat} {s : DSt} {cs : Array Value} {e : TypeId} (h : One F1 G1 w pd s) (hx : w.heap[pf]? = some (.cells cs e (0, 0))) (hc1 : cs[1]? = some (devV pd)) {k : List UInt8} (hk : k.length ≤ maxLen) {N : Nat} (hok : s.Ok N) (hN : N + 1 < maxList)
    (c0 : w.cell? ⟨bo, 0, none⟩ = some (.func (.func 256) #[] #[])) (c1 : w.cell? ⟨bf, 0, none⟩ = some (.pointer (some ⟨pf, 0, none⟩))) (c2 : w.cell? ⟨bn, 0, none⟩ = some (.string ⟨k.toArray⟩)) (hF : ¬ F1 bo ∧ ¬ F1 bf ∧ ¬ F1 bn ∧ ¬ F1 pf) :
    Calls Tryz.prog 258 #[.pointer (some ⟨bo, 0, none⟩), .pointer (some ⟨bf, 0, none⟩), .pointer (some ⟨bn, 0, none⟩)] w fun e w' => e = .returned (.int .i64 ((s.remove k).2 : Int)) ∧ ∃ F' G', One F' G' w' pd (s.remove k).1 ∧ Moved F1 G1 F' G' w w' := by
  have cv := cell_of_heap hx hc1
  unfold devV at cv
  have hm := devRemove1_any pd
  unfold devV at hm
  have hd : One F1 G1 w.drew pd s := h.kept (O := fun _ => False) ((Chg.refl (fun _ => False) w).drew) (fun _ _ h => h) (fun _ _ h => h)
  have hcr := hd.remove hk hok hN
  go_enter Tryz.func258, Tryz.ntmps258
  go_upto_region 1 with fail
  refine wp_region_held_drew (S := fun w' => w'.cell? ⟨bo, 0, none⟩ = some (.func (.func 256) #[] #[]) ∧ w'.cell? ⟨bf, 0, none⟩ = some (.pointer (some ⟨pf, 0, none⟩)) ∧ w'.cell? ⟨pf, 1, none⟩ = some (.iface 45 (.pointer (some ⟨pd, 0, none⟩))) ∧ w'.cell? ⟨bn, 0, none⟩ = some (.string ⟨k.toArray⟩)) (by kernel_rfl) (⟨c0, c1, cv, c2⟩) (fun hHeld => ?_)
  refine wpAnyH_take (i := 0) (v := ?_) rfl (by kernel_rfl) (by kernel_rfl) (by kernel_rfl) (fun _ _ _ h => h) (Or.inl ⟨by rfl, ?_⟩) hHeld ?_
  rotate_left
  · intro w hSw; (try dsimp only at hSw); go_simp
    all_goals (with_reducible rfl)
  (try simp only [Act.put, List.getElem_toArray, List.getElem_cons_succ, List.getElem_cons_zero, List.setIfInBounds_toArray, List.set_cons_zero, List.set_cons_succ])
  refine wpAnyH_take (i := 1) (v := ?_) rfl (by kernel_rfl) (by kernel_rfl) (by kernel_rfl) (fun _ _ _ h => h) (Or.inl ⟨by rfl, ?_⟩) hHeld ?_
  rotate_left
  · intro w hSw; (try dsimp only at hSw); go_simp
    all_goals (with_reducible rfl)
  (try simp only [Act.put, List.getElem_toArray, List.getElem_cons_succ, List.getElem_cons_zero, List.setIfInBounds_toArray, List.set_cons_zero, List.set_cons_succ])
  refine wpAnyH_take (i := 2) (v := ?_) rfl (by kernel_rfl) (by kernel_rfl) (by kernel_rfl) (fun _ _ _ h => h) (Or.inl ⟨by rfl, ?_⟩) hHeld ?_
  rotate_left
  · intro w hSw; (try dsimp only at hSw); go_simp
    all_goals (with_reducible rfl)
  (try simp only [Act.put, List.getElem_toArray, List.getElem_cons_succ, List.getElem_cons_zero, List.setIfInBounds_toArray, List.set_cons_zero, List.set_cons_succ])
  refine wpAnyH_take (i := 3) (v := ?_) rfl (by kernel_rfl) (by kernel_rfl) (by kernel_rfl) (fun _ _ _ h => h) (Or.inl ⟨by rfl, ?_⟩) hHeld ?_
  rotate_left
  · intro w hSw; (try dsimp only at hSw); go_simp
    all_goals (with_reducible rfl)
  (try simp only [Act.put, List.getElem_toArray, List.getElem_cons_succ, List.getElem_cons_zero, List.setIfInBounds_toArray, List.set_cons_zero, List.set_cons_succ])
  refine wpAnyH_take (i := 4) (v := ?_) rfl (by kernel_rfl) (by kernel_rfl) (by kernel_rfl) (fun _ _ _ h => h) (Or.inl ⟨by rfl, ?_⟩) hHeld ?_
  rotate_left
  · intro w hSw; (try dsimp only at hSw); go_simp
    all_goals (with_reducible rfl)
  (try simp only [Act.put, List.getElem_toArray, List.getElem_cons_succ, List.getElem_cons_zero, List.setIfInBounds_toArray, List.set_cons_zero, List.set_cons_succ])
  refine wpAnyH_take (i := 6) (v := ?_) rfl (by kernel_rfl) (by kernel_rfl) (by kernel_rfl) (fun _ _ _ h => h) (Or.inl ⟨by rfl, ?_⟩) hHeld ?_
  rotate_left
  · intro w hSw; (try dsimp only at hSw); go_simp
    all_goals (with_reducible rfl)
  (try simp only [Act.put, List.getElem_toArray, List.getElem_cons_succ, List.getElem_cons_zero, List.setIfInBounds_toArray, List.set_cons_zero, List.set_cons_succ])
  refine wpAnyH_ready (rs := [5]) (by kernel_rfl) (by simp) ?_
  refine AllReadyH.cons rfl (fun K hK => ?_) AllReadyH.nil
  go_simp
  go_wp2_with (go_at_call 256; refine (hm _).mono ?_; rintro _ w1 ⟨rfl, rfl⟩)
  refine hK.out _ _ (⟨c0, c1, cv, c2⟩) (fun hHeld => ?_)
  clear hK K
  (try simp only [Act.put, List.getElem_toArray, List.getElem_cons_succ, List.getElem_cons_zero, List.setIfInBounds_toArray, List.set_cons_zero, List.set_cons_succ])
  refine wpAnyH_ready (rs := [7]) (by kernel_rfl) (by simp) ?_
  refine AllReadyH.cons rfl (fun K hK => ?_) AllReadyH.nil
  go_simp
  go_wp2_with (go_at_call 223; refine hcr.mono ?_; rintro _ w2 ⟨rfl, F', G', ho, hmv⟩)
  have d0 := hmv.1.cell c0 hF.1
  have d1 := hmv.1.cell c1 hF.2.1
  have dv := hmv.1.cell cv hF.2.2.2
  have d2 := hmv.1.cell c2 hF.2.2.1
  
  refine hK.out _ _ (⟨d0, d1, dv, d2⟩) (fun hHeld => ?_)
  clear hK K
  (try simp only [Act.put, List.getElem_toArray, List.getElem_cons_succ, List.getElem_cons_zero, List.setIfInBounds_toArray, List.set_cons_zero, List.set_cons_succ])
  refine wpAnyH_take (i := 8) (v := ?_) rfl (by kernel_rfl) (by kernel_rfl) (by kernel_rfl) (fun _ _ _ h => h) (Or.inl ⟨by rfl, ?_⟩) hHeld ?_
  rotate_left
  · intro w hSw; (try dsimp only at hSw); go_simp
    all_goals (with_reducible rfl)
  (try simp only [Act.put, List.getElem_toArray, List.getElem_cons_succ, List.getElem_cons_zero, List.setIfInBounds_toArray, List.set_cons_zero, List.set_cons_succ])
  refine wpAnyH_done (by kernel_rfl) ?_ _
  clear hHeld
  have HM := Lib.hid (And.intro ho hmv)
  clear ho hmv hcr hm
  go_wp2
  go_ret
  exact ⟨rfl, F', G', HM.out.1, ((Chg.refl F1 w).drew).trans HM.out.2.1 (fun _ h _ => h), HM.out.2.2⟩
theorem FaultAt.ofP {F G F1 G1 : Nat → Prop} {w w' : World} {pf pd : Nat} {vf vd : Value} {r : FSt} (h2 : ∀ b, F b ↔ F1 b ∨ b = pf ∨ vf.ownBlock = some b ∨ vd.ownBlock = some b) (h3 : ∀ b, G b ↔ G1 b) (h : ∃ F' G', FaultAt F' G' w' pf pd r ∧ Moved (fun b => F1 b ∨ b = pf ∨ vf.ownBlock = some b ∨ vd.ownBlock = some b) G1 F' G' w w') : ∃ F' G', FaultAt F' G' w' pf pd r ∧ Moved F G F' G' w w' := by
  obtain ⟨F', G', k1, k2⟩ := h
  exact ⟨F', G', k1, k2.1.mono (fun b hb _ => (h2 b).2 hb), fun b hb => ⟨(k2.2.1 b hb).1.imp (h2 b).2 id, (k2.2.1 b hb).2⟩, fun b hb => ⟨(k2.2.2 b hb).1.imp (h3 b).2 id, (k2.2.2 b hb).2⟩⟩
set_option maxRecDepth 100000 in
set_option maxHeartbeats 4000000 in
theorem FaultAt.create {F G : Nat → Prop} {w : World} {pf pd : Nat} {f : FSt} (h : FaultAt F G w pf pd f) {k : List UInt8} (hk : k.length ≤ maxLen) {N : Nat} (hok : f.disk.Ok N) (hN : N + 1 < maxList) (hdn : f.done.length < 1048576) (hfl : f.full.length ≤ 4194304) :
    Calls Tryz.prog 246 #[.pointer (some ⟨pf, 0, none⟩), .string ⟨k.toArray⟩] w fun e w' => e = .returned (.int .i64 (f.ask ⟨1, k, [], 0, 0, 0⟩ (f.disk.create k)).2) ∧ ∃ F' G', FaultAt F' G' w' pf pd (f.ask ⟨1, k, [], 0, 0, 0⟩ (f.disk.create k)).1 ∧ Moved F G F' G' w w' := by
  obtain ⟨F1, G1, vf, vd, e, h1, h2, h3⟩ := h
  obtain ⟨w3, hw3⟩ : ∃ w3, ((w.alloc (.cells #[.pointer (some ⟨pf, 0, none⟩)] 65)).alloc (.cells #[.string ⟨k.toArray⟩] 9)).alloc (.cells #[.func (.func 253) #[] #[]] 312) = w3 := ⟨_, rfl⟩
  have hb3 : Below w.heap.size w w3 := by rw [← hw3]; exact ((below_alloc w _).alloc (by simp) _).alloc (by simp; omega) _
  have hz3 : w3.heap.size = w.heap.size + 1 + 1 + 1 := by rw [← hw3]; simp
  have hcf : Boxed w3 w.heap.size 65 (.pointer (some ⟨pf, 0, none⟩)) := by rw [← hw3]; exact ((Boxed.new _ _ _).alloc _).alloc _
  have hcn : Boxed w3 (w.heap.size + 1) 9 (.string ⟨k.toArray⟩) := by rw [← hw3]; have := (Boxed.new (w.alloc (.cells #[.pointer (some ⟨pf, 0, none⟩)] 65)) 9 (.string ⟨k.toArray⟩)).alloc (.cells #[.func (.func 253) #[] #[]] 312); rwa [World.size_alloc] at this
  have hco : Boxed w3 (w.heap.size + 1 + 1) 312 (.func (.func 253) #[] #[]) := by rw [← hw3]; have := Boxed.new ((w.alloc (.cells #[.pointer (some ⟨pf, 0, none⟩)] 65)).alloc (.cells #[.string ⟨k.toArray⟩] 9)) 312 (.func (.func 253) #[] #[]); rwa [World.size_alloc, World.size_alloc] at this
  have h13 := h1.kept (O := fun _ => False) (Chg.of_below hb3) (fun _ _ h => h) (fun h => h) (fun _ _ h => h) (fun _ _ h => h)
  have hpl := heap_lt h1.cells
  have hlt := h1.disk.lt
  have hoc := hco.cell
  have hfc := hcf.cell
  have hnc := hcn.cell
  have ha : Calls Tryz.prog 106 #[.pointer (some ⟨pf, 0, none⟩), .agg #[.int .i64 1, .string ⟨k.toArray⟩, .string ⟨#[]⟩, .int .i64 0, .int .i64 0, .int .i64 0], .func (.func 258) #[] #[.pointer (some ⟨w.heap.size + 1 + 1, 0, none⟩), .pointer (some ⟨w.heap.size, 0, none⟩), .pointer (some ⟨w.heap.size + 1, 0, none⟩)]] w3 fun e w' => e = .returned (.int .i64 (f.ask ⟨1, k, [], 0, 0, 0⟩ (f.disk.create k)).2) ∧ ∃ F' G', FaultAt F' G' w' pf pd (f.ask ⟨1, k, [], 0, 0, 0⟩ (f.disk.create k)).1 ∧ Moved (fun b => F1 b ∨ b = pf ∨ vf.ownBlock = some b ∨ vd.ownBlock = some b) G1 F' G' w3 w' :=
    ask_any h13 (x := ⟨1, k, [], 0, 0, 0⟩) rfl hdn hfl 258 _ enters_by1 (f.disk.create k) (fun W hW hx _ => by1_Create (h13.disk.kept hW (fun b hb e => (h13.out b (.inl hb)).1 e) (fun b hb e => (h13.out b (.inr hb)).1 e)) hx (by rfl) hk hok hN (hW.cell hoc (by show ¬ w.heap.size + 1 + 1 = pf; omega)) (hW.cell hfc (by show ¬ w.heap.size = pf; omega)) (hW.cell hnc (by show ¬ w.heap.size + 1 = pf; omega)) ⟨fun hb => by have := hlt.1 _ hb; omega, fun hb => by have := hlt.1 _ hb; omega, fun hb => by have := hlt.1 _ hb; omega, fun hb => (h1.out _ (.inl hb)).1 rfl⟩)
  have hby : Calls Tryz.prog 252 #[.pointer (some ⟨pf, 0, none⟩), .int .i64 1, .string ⟨k.toArray⟩, .func (.func 253) #[] #[]] w fun e w' => e = .returned (.int .i64 (f.ask ⟨1, k, [], 0, 0, 0⟩ (f.disk.create k)).2) ∧ ∃ F' G', FaultAt F' G' w' pf pd (f.ask ⟨1, k, [], 0, 0, 0⟩ (f.disk.create k)).1 ∧ Moved (fun b => F1 b ∨ b = pf ∨ vf.ownBlock = some b ∨ vd.ownBlock = some b) G1 F' G' w3 w' := by
    have HZ := Lib.hid hz3
    have HW := Lib.hid hw3
    clear hz3 hw3
    go_enter Tryz.func252, Tryz.ntmps252
    go_wp2_with (first | rw [HW.out] | (go_at_call 106; refine ha.mono ?_; rintro _ w4 ⟨rfl, hq⟩))
    go_ret
    exact ⟨rfl, hq⟩
  go_enter Tryz.func246, Tryz.ntmps246
  go_wp2_with (go_at_call 252; refine hby.mono ?_; rintro _ w4 ⟨rfl, hq⟩)
  go_ret
  obtain ⟨F', G', k1, k2⟩ := FaultAt.ofP h2 h3 hq
  exact ⟨rfl, F', G', k1, k2.after hb3⟩
set_option maxRecDepth 100000 in
set_option maxHeartbeats 4000000 in
theorem FaultAt.sync {F G : Nat → Prop} {w : World} {pf pd : Nat} {f : FSt} (h : FaultAt F G w pf pd f) {k : List UInt8} (hk : k.length ≤ maxLen) {N : Nat} (hok : f.disk.Ok N) (hN : N + 1 < maxList) (hdn : f.done.length < 1048576) (hfl : f.full.length ≤ 4194304) :
    Calls Tryz.prog 251 #[.pointer (some ⟨pf, 0, none⟩), .string ⟨k.toArray⟩] w fun e w' => e = .returned (.int .i64 (f.ask ⟨4, k, [], 0, 0, 0⟩ (f.disk.sync k)).2) ∧ ∃ F' G', FaultAt F' G' w' pf pd (f.ask ⟨4, k, [], 0, 0, 0⟩ (f.disk.sync k)).1 ∧ Moved F G F' G' w w' := by
  obtain ⟨F1, G1, vf, vd, e, h1, h2, h3⟩ := h
  obtain ⟨w3, hw3⟩ : ∃ w3, ((w.alloc (.cells #[.pointer (some ⟨pf, 0, none⟩)] 65)).alloc (.cells #[.string ⟨k.toArray⟩] 9)).alloc (.cells #[.func (.func 257) #[] #[]] 312) = w3 := ⟨_, rfl⟩
  have hb3 : Below w.heap.size w w3 := by rw [← hw3]; exact ((below_alloc w _).alloc (by simp) _).alloc (by simp; omega) _
  have hz3 : w3.heap.size = w.heap.size + 1 + 1 + 1 := by rw [← hw3]; simp
  have hcf : Boxed w3 w.heap.size 65 (.pointer (some ⟨pf, 0, none⟩)) := by rw [← hw3]; exact ((Boxed.new _ _ _).alloc _).alloc _
  have hcn : Boxed w3 (w.heap.size + 1) 9 (.string ⟨k.toArray⟩) := by rw [← hw3]; have := (Boxed.new (w.alloc (.cells #[.pointer (some ⟨pf, 0, none⟩)] 65)) 9 (.string ⟨k.toArray⟩)).alloc (.cells #[.func (.func 257) #[] #[]] 312); rwa [World.size_alloc] at this
  have hco : Boxed w3 (w.heap.size + 1 + 1) 312 (.func (.func 257) #[] #[]) := by rw [← hw3]; have := Boxed.new ((w.alloc (.cells #[.pointer (some ⟨pf, 0, none⟩)] 65)).alloc (.cells #[.string ⟨k.toArray⟩] 9)) 312 (.func (.func 257) #[] #[]); rwa [World.size_alloc, World.size_alloc] at this
  have h13 := h1.kept (O := fun _ => False) (Chg.of_below hb3) (fun _ _ h => h) (fun h => h) (fun _ _ h => h) (fun _ _ h => h)
  have hpl := heap_lt h1.cells
  have hlt := h1.disk.lt
  have hoc := hco.cell
  have hfc := hcf.cell
  have hnc := hcn.cell
  have ha : Calls Tryz.prog 106 #[.pointer (some ⟨pf, 0, none⟩), .agg #[.int .i64 4, .string ⟨k.toArray⟩, .string ⟨#[]⟩, .int .i64 0, .int .i64 0, .int .i64 0], .func (.func 258) #[] #[.pointer (some ⟨w.heap.size + 1 + 1, 0, none⟩), .pointer (some ⟨w.heap.size, 0, none⟩), .pointer (some ⟨w.heap.size + 1, 0, none⟩)]] w3 fun e w' => e = .returned (.int .i64 (f.ask ⟨4, k, [], 0, 0, 0⟩ (f.disk.sync k)).2) ∧ ∃ F' G', FaultAt F' G' w' pf pd (f.ask ⟨4, k, [], 0, 0, 0⟩ (f.disk.sync k)).1 ∧ Moved (fun b => F1 b ∨ b = pf ∨ vf.ownBlock = some b ∨ vd.ownBlock = some b) G1 F' G' w3 w' :=
    ask_any h13 (x := ⟨4, k, [], 0, 0, 0⟩) rfl hdn hfl 258 _ enters_by1 (f.disk.sync k) (fun W hW hx _ => by1_Sync (h13.disk.kept hW (fun b hb e => (h13.out b (.inl hb)).1 e) (fun b hb e => (h13.out b (.inr hb)).1 e)) hx (by rfl) hk hok hN (hW.cell hoc (by show ¬ w.heap.size + 1 + 1 = pf; omega)) (hW.cell hfc (by show ¬ w.heap.size = pf; omega)) (hW.cell hnc (by show ¬ w.heap.size + 1 = pf; omega)) ⟨fun hb => by have := hlt.1 _ hb; omega, fun hb => by have := hlt.1 _ hb; omega, fun hb => by have := hlt.1 _ hb; omega, fun hb => (h1.out _ (.inl hb)).1 rfl⟩)
  have hby : Calls Tryz.prog 252 #[.pointer (some ⟨pf, 0, none⟩), .int .i64 4, .string ⟨k.toArray⟩, .func (.func 257) #[] #[]] w fun e w' => e = .returned (.int .i64 (f.ask ⟨4, k, [], 0, 0, 0⟩ (f.disk.sync k)).2) ∧ ∃ F' G', FaultAt F' G' w' pf pd (f.ask ⟨4, k, [], 0, 0, 0⟩ (f.disk.sync k)).1 ∧ Moved (fun b => F1 b ∨ b = pf ∨ vf.ownBlock = some b ∨ vd.ownBlock = some b) G1 F' G' w3 w' := by
    have HZ := Lib.hid hz3
    have HW := Lib.hid hw3
    clear hz3 hw3
    go_enter Tryz.func252, Tryz.ntmps252
    go_wp2_with (first | rw [HW.out] | (go_at_call 106; refine ha.mono ?_; rintro _ w4 ⟨rfl, hq⟩))
    go_ret
    exact ⟨rfl, hq⟩
  go_enter Tryz.func251, Tryz.ntmps251
  go_wp2_with (go_at_call 252; refine hby.mono ?_; rintro _ w4 ⟨rfl, hq⟩)
  go_ret
  obtain ⟨F', G', k1, k2⟩ := FaultAt.ofP h2 h3 hq
  exact ⟨rfl, F', G', k1, k2.after hb3⟩
set_option maxRecDepth 100000 in
set_option maxHeartbeats 4000000 in
theorem FaultAt.remove {F G : Nat → Prop} {w : World} {pf pd : Nat} {f : FSt} (h : FaultAt F G w pf pd f) {k : List UInt8} (hk : k.length ≤ maxLen) {N : Nat} (hok : f.disk.Ok N) (hN : N + 1 < maxList) (hdn : f.done.length < 1048576) (hfl : f.full.length ≤ 4194304) :
    Calls Tryz.prog 249 #[.pointer (some ⟨pf, 0, none⟩), .string ⟨k.toArray⟩] w fun e w' => e = .returned (.int .i64 (f.ask ⟨7, k, [], 0, 0, 0⟩ (f.disk.remove k)).2) ∧ ∃ F' G', FaultAt F' G' w' pf pd (f.ask ⟨7, k, [], 0, 0, 0⟩ (f.disk.remove k)).1 ∧ Moved F G F' G' w w' := by
  obtain ⟨F1, G1, vf, vd, e, h1, h2, h3⟩ := h
  obtain ⟨w3, hw3⟩ : ∃ w3, ((w.alloc (.cells #[.pointer (some ⟨pf, 0, none⟩)] 65)).alloc (.cells #[.string ⟨k.toArray⟩] 9)).alloc (.cells #[.func (.func 256) #[] #[]] 312) = w3 := ⟨_, rfl⟩
  have hb3 : Below w.heap.size w w3 := by rw [← hw3]; exact ((below_alloc w _).alloc (by simp) _).alloc (by simp; omega) _
  have hz3 : w3.heap.size = w.heap.size + 1 + 1 + 1 := by rw [← hw3]; simp
  have hcf : Boxed w3 w.heap.size 65 (.pointer (some ⟨pf, 0, none⟩)) := by rw [← hw3]; exact ((Boxed.new _ _ _).alloc _).alloc _
  have hcn : Boxed w3 (w.heap.size + 1) 9 (.string ⟨k.toArray⟩) := by rw [← hw3]; have := (Boxed.new (w.alloc (.cells #[.pointer (some ⟨pf, 0, none⟩)] 65)) 9 (.string ⟨k.toArray⟩)).alloc (.cells #[.func (.func 256) #[] #[]] 312); rwa [World.size_alloc] at this
  have hco : Boxed w3 (w.heap.size + 1 + 1) 312 (.func (.func 256) #[] #[]) := by rw [← hw3]; have := Boxed.new ((w.alloc (.cells #[.pointer (some ⟨pf, 0, none⟩)] 65)).alloc (.cells #[.string ⟨k.toArray⟩] 9)) 312 (.func (.func 256) #[] #[]); rwa [World.size_alloc, World.size_alloc] at this
  have h13 := h1.kept (O := fun _ => False) (Chg.of_below hb3) (fun _ _ h => h) (fun h => h) (fun _ _ h => h) (fun _ _ h => h)
  have hpl := heap_lt h1.cells
  have hlt := h1.disk.lt
  have hoc := hco.cell
  have hfc := hcf.cell
  have hnc := hcn.cell
  have ha : Calls Tryz.prog 106 #[.pointer (some ⟨pf, 0, none⟩), .agg #[.int .i64 7, .string ⟨k.toArray⟩, .string ⟨#[]⟩, .int .i64 0, .int .i64 0, .int .i64 0], .func (.func 258) #[] #[.pointer (some ⟨w.heap.size + 1 + 1, 0, none⟩), .pointer (some ⟨w.heap.size, 0, none⟩), .pointer (some ⟨w.heap.size + 1, 0, none⟩)]] w3 fun e w' => e = .returned (.int .i64 (f.ask ⟨7, k, [], 0, 0, 0⟩ (f.disk.remove k)).2) ∧ ∃ F' G', FaultAt F' G' w' pf pd (f.ask ⟨7, k, [], 0, 0, 0⟩ (f.disk.remove k)).1 ∧ Moved (fun b => F1 b ∨ b = pf ∨ vf.ownBlock = some b ∨ vd.ownBlock = some b) G1 F' G' w3 w' :=
    ask_any h13 (x := ⟨7, k, [], 0, 0, 0⟩) rfl hdn hfl 258 _ enters_by1 (f.disk.remove k) (fun W hW hx _ => by1_Remove (h13.disk.kept hW (fun b hb e => (h13.out b (.inl hb)).1 e) (fun b hb e => (h13.out b (.inr hb)).1 e)) hx (by rfl) hk hok hN (hW.cell hoc (by show ¬ w.heap.size + 1 + 1 = pf; omega)) (hW.cell hfc (by show ¬ w.heap.size = pf; omega)) (hW.cell hnc (by show ¬ w.heap.size + 1 = pf; omega)) ⟨fun hb => by have := hlt.1 _ hb; omega, fun hb => by have := hlt.1 _ hb; omega, fun hb => by have := hlt.1 _ hb; omega, fun hb => (h1.out _ (.inl hb)).1 rfl⟩)
  have hby : Calls Tryz.prog 252 #[.pointer (some ⟨pf, 0, none⟩), .int .i64 7, .string ⟨k.toArray⟩, .func (.func 256) #[] #[]] w fun e w' => e = .returned (.int .i64 (f.ask ⟨7, k, [], 0, 0, 0⟩ (f.disk.remove k)).2) ∧ ∃ F' G', FaultAt F' G' w' pf pd (f.ask ⟨7, k, [], 0, 0, 0⟩ (f.disk.remove k)).1 ∧ Moved (fun b => F1 b ∨ b = pf ∨ vf.ownBlock = some b ∨ vd.ownBlock = some b) G1 F' G' w3 w' := by
    have HZ := Lib.hid hz3
    have HW := Lib.hid hw3
    clear hz3 hw3
    go_enter Tryz.func252, Tryz.ntmps252
    go_wp2_with (first | rw [HW.out] | (go_at_call 106; refine ha.mono ?_; rintro _ w4 ⟨rfl, hq⟩))
    go_ret
    exact ⟨rfl, hq⟩
  go_enter Tryz.func249, Tryz.ntmps249
  go_wp2_with (go_at_call 252; refine hby.mono ?_; rintro _ w4 ⟨rfl, hq⟩)
  go_ret
  obtain ⟨F', G', k1, k2⟩ := FaultAt.ofP h2 h3 hq
  exact ⟨rfl, F', G', k1, k2.after hb3⟩
end Go.Proofs.YtlmdpcaikhdenaaGreat
