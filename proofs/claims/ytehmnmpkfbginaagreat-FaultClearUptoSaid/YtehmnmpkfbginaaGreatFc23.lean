/- Texts of this claim, one behind the other: FaF. -/
import Derived.Test.YtehmnmpkfbginaaGreatFc22
set_option linter.unusedSimpArgs false
set_option linter.unusedVariables false
/- The device over the disk: Write, Cut, SyncNames, Rename. (printed by gen/fmeth2.py) -/
namespace Go.Proofs.YtehmnmpkfbginaaGreat
open Go.RowKit Go.Maps

theorem enters_Write1 : enters 34 := fun args w => by go_simp
set_option maxRecDepth 100000 in
set_option maxHeartbeats 4000000 in
theorem dev1_Write {F1 G1 : Nat → Prop} {w : World} {pd pf bf bn ba bb : Nat} {s : DSt} {cs : Array Value} {e : TypeId} (h : One F1 G1 w pd s) (hx : w.heap[pf]? = some (.cells cs e (0, 0))) (hc1 : cs[1]? = some (devV pd)) {k : List UInt8} (hk : k.length ≤ maxLen) {at_ : Int} {xa : Option Addr} {xc : Nat} {l : List UInt8} (hrow : RowAt w xa (l.map bv)) (hnil : xa = none → xc = 0) (hl : l.length ≤ 140737488355328) (h64 : -9223372036854775808 ≤ at_ ∧ at_ < 9223372036854775808) {N : Nat} (hok : s.Ok N) (hN : N + 1 < maxList)
    (c0 : w.cell? ⟨bf, 0, none⟩ = some (.pointer (some ⟨pf, 0, none⟩))) (c1 : w.cell? ⟨bn, 0, none⟩ = some (.string ⟨k.toArray⟩)) (c2 : w.cell? ⟨ba, 0, none⟩ = some (.int .i64 at_)) (c3 : w.cell? ⟨bb, 0, none⟩ = some (.slice xa l.length xc)) (hF : ¬ F1 bf ∧ ¬ F1 bn ∧ ¬ F1 ba ∧ ¬ F1 bb ∧ ¬ F1 pf) :
    Calls Tryz.prog 34 #[.pointer (some ⟨bf, 0, none⟩), .pointer (some ⟨bn, 0, none⟩), .pointer (some ⟨ba, 0, none⟩), .pointer (some ⟨bb, 0, none⟩)] w fun e w' => e = .returned (.int .i64 ((s.put k at_ l).2 : Int)) ∧ ∃ F' G', One F' G' w' pd (s.put k at_ l).1 ∧ Moved F1 G1 F' G' w w' := by
  have cv := cell_of_heap hx hc1
  unfold devV at cv
  have hd : One F1 G1 w.drew pd s := h.kept (O := fun _ => False) ((Chg.refl (fun _ => False) w).drew) (fun _ _ h => h) (fun _ _ h => h)
  have hcr := hd.put hk (fun h => hrow h) hnil hl h64 hok hN
  go_enter Tryz.func34, Tryz.ntmps34
  go_upto_region 1 with fail
  refine wp_region_held_drew (S := fun w' => w'.cell? ⟨bf, 0, none⟩ = some (.pointer (some ⟨pf, 0, none⟩)) ∧ w'.cell? ⟨bn, 0, none⟩ = some (.string ⟨k.toArray⟩) ∧ w'.cell? ⟨ba, 0, none⟩ = some (.int .i64 at_) ∧ w'.cell? ⟨bb, 0, none⟩ = some (.slice xa l.length xc) ∧ w'.cell? ⟨pf, 1, none⟩ = some (.iface 31 (.pointer (some ⟨pd, 0, none⟩)))) (by kernel_rfl) (⟨c0, c1, c2, c3, cv⟩) (fun hHeld => ?_)
  refine wpAnyH_take (i := 0) (v := ?_) rfl (by kernel_rfl) (by kernel_rfl) (by kernel_rfl) (fun _ _ _ h => h) (Or.inl ⟨by rfl, ?_⟩) hHeld ?_
  rotate_left
  · intro w hSw; (try dsimp only at hSw); go_simp
    all_goals (with_reducible rfl)
  (try simp only [Act.put, List.getElem_toArray, List.getElem_cons_succ, List.getElem_cons_zero, List.setIfInBounds_toArray, List.set_cons_zero, List.set_cons_succ])
  refine wpAnyH_take (i := 1) (v := ?_) rfl (by kernel_rfl) (by kernel_rfl) (by kernel_rfl) (fun _ _ _ h => h) (Or.inl ⟨by rfl, ?_⟩) hHeld ?_
  rotate_left
  · intro w hSw; (try dsimp only at hSw); go_simp
    all_goals (with_reducible rfl)
  (try simp only [Act.put, List.getElem_toArray, List.getElem_cons_succ, List.getElem_cons_zero, List.setIfInBounds_toArray, List.set_cons_zero, List.set_cons_succ])
  refine wpAnyH_take (i := 2) (v := ?_) rfl (by kernel_rfl) (by kernel_rfl) (by kernel_rfl) (fun _ _ _ h => h) (Or.inl ⟨by rfl, ?_⟩) hHeld ?_
  rotate_left
  · intro w hSw; (try dsimp only at hSw); go_simp
    all_goals (with_reducible rfl)
  (try simp only [Act.put, List.getElem_toArray, List.getElem_cons_succ, List.getElem_cons_zero, List.setIfInBounds_toArray, List.set_cons_zero, List.set_cons_succ])
  refine wpAnyH_take (i := 3) (v := ?_) rfl (by kernel_rfl) (by kernel_rfl) (by kernel_rfl) (fun _ _ _ h => h) (Or.inl ⟨by rfl, ?_⟩) hHeld ?_
  rotate_left
  · intro w hSw; (try dsimp only at hSw); go_simp
    all_goals (with_reducible rfl)
  (try simp only [Act.put, List.getElem_toArray, List.getElem_cons_succ, List.getElem_cons_zero, List.setIfInBounds_toArray, List.set_cons_zero, List.set_cons_succ])
  refine wpAnyH_take (i := 4) (v := ?_) rfl (by kernel_rfl) (by kernel_rfl) (by kernel_rfl) (fun _ _ _ h => h) (Or.inl ⟨by rfl, ?_⟩) hHeld ?_
  rotate_left
  · intro w hSw; (try dsimp only at hSw); go_simp
    all_goals (with_reducible rfl)
  (try simp only [Act.put, List.getElem_toArray, List.getElem_cons_succ, List.getElem_cons_zero, List.setIfInBounds_toArray, List.set_cons_zero, List.set_cons_succ])
  refine wpAnyH_take (i := 5) (v := ?_) rfl (by kernel_rfl) (by kernel_rfl) (by kernel_rfl) (fun _ _ _ h => h) (Or.inl ⟨by rfl, ?_⟩) hHeld ?_
  rotate_left
  · intro w hSw; (try dsimp only at hSw); go_simp
    all_goals (with_reducible rfl)
  (try simp only [Act.put, List.getElem_toArray, List.getElem_cons_succ, List.getElem_cons_zero, List.setIfInBounds_toArray, List.set_cons_zero, List.set_cons_succ])
  refine wpAnyH_take (i := 6) (v := ?_) rfl (by kernel_rfl) (by kernel_rfl) (by kernel_rfl) (fun _ _ _ h => h) (Or.inl ⟨by rfl, ?_⟩) hHeld ?_
  rotate_left
  · intro w hSw; (try dsimp only at hSw); go_simp
    all_goals (with_reducible rfl)
  (try simp only [Act.put, List.getElem_toArray, List.getElem_cons_succ, List.getElem_cons_zero, List.setIfInBounds_toArray, List.set_cons_zero, List.set_cons_succ])
  refine wpAnyH_ready (rs := [7]) (by kernel_rfl) (by simp) ?_
  refine AllReadyH.cons rfl (fun K hK => ?_) AllReadyH.nil
  go_simp
  go_wp2_with (go_at_call 102; refine hcr.mono ?_; rintro _ w2 ⟨rfl, F', G', ho, hmv⟩)
  have d0 := hmv.1.cell c0 hF.1
  have d1 := hmv.1.cell c1 hF.2.1
  have d2 := hmv.1.cell c2 hF.2.2.1
  have d3 := hmv.1.cell c3 hF.2.2.2.1
  have dv := hmv.1.cell cv hF.2.2.2.2
  
  refine hK.out _ _ (⟨d0, d1, d2, d3, dv⟩) (fun hHeld => ?_)
  clear hK K
  (try simp only [Act.put, List.getElem_toArray, List.getElem_cons_succ, List.getElem_cons_zero, List.setIfInBounds_toArray, List.set_cons_zero, List.set_cons_succ])
  refine wpAnyH_take (i := 8) (v := ?_) rfl (by kernel_rfl) (by kernel_rfl) (by kernel_rfl) (fun _ _ _ h => h) (Or.inl ⟨by rfl, ?_⟩) hHeld ?_
  rotate_left
  · intro w hSw; (try dsimp only at hSw); go_simp
    all_goals (with_reducible rfl)
  (try simp only [Act.put, List.getElem_toArray, List.getElem_cons_succ, List.getElem_cons_zero, List.setIfInBounds_toArray, List.set_cons_zero, List.set_cons_succ])
  refine wpAnyH_done (by kernel_rfl) ?_ _
  clear hHeld
  have HM := Lib.hid (And.intro ho hmv)
  clear ho hmv hcr
  go_wp2
  go_ret
  exact ⟨rfl, F', G', HM.out.1, ((Chg.refl F1 w).drew).trans HM.out.2.1 (fun _ h _ => h), HM.out.2.2⟩
set_option maxRecDepth 100000 in
set_option maxHeartbeats 4000000 in
theorem FaultAt.put {F G : Nat → Prop} {w : World} {pf pd : Nat} {f : FSt} (h : FaultAt F G w pf pd f) {k : List UInt8} (hk : k.length ≤ maxLen) {at_ : Int} {xa : Option Addr} {xc : Nat} {l : List UInt8} (hrow : RowAt w xa (l.map bv)) (hnil : xa = none → xc = 0) (hl : l.length ≤ 140737488355328) (hxp : ∀ y, xa = some y → y.block ≠ pf) (h64 : -9223372036854775808 ≤ at_ ∧ at_ < 9223372036854775808) {N : Nat} (hok : f.disk.Ok N) (hN : N + 1 < maxList) (hdn : f.done.length < 1048576) (hfl : f.full.length ≤ 4194304) :
    Calls Tryz.prog 17 #[.pointer (some ⟨pf, 0, none⟩), .string ⟨k.toArray⟩, .int .i64 at_, .slice xa l.length xc] w fun e w' => e = .returned (.int .i64 (f.ask ⟨2, k, [], at_, (l.length : Int), 0⟩ (f.disk.put k at_ l)).2) ∧ ∃ F' G', FaultAt F' G' w' pf pd (f.ask ⟨2, k, [], at_, (l.length : Int), 0⟩ (f.disk.put k at_ l)).1 ∧ Moved F G F' G' w w' := by
  obtain ⟨F1, G1, vf, vd, e, h1, h2, h3⟩ := h
  obtain ⟨w3, hw3⟩ : ∃ w3, ((((w.alloc (.cells #[.pointer (some ⟨pf, 0, none⟩)] 36)).alloc (.cells #[.string ⟨k.toArray⟩] 9)).alloc (.cells #[.int .i64 at_] 2)).alloc (.cells #[.slice xa l.length xc] 42)) = w3 := ⟨_, rfl⟩
  have hb3 : Below w.heap.size w w3 := by rw [← hw3]; exact ((((below_alloc w _).alloc (by simp) _).alloc (by simp; omega) _).alloc (by simp; omega) _)
  have hz3 : w3.heap.size = w.heap.size + 1 + 1 + 1 + 1 := by rw [← hw3]; simp
  have e0 := Boxed.cell (show Boxed w3 (w.heap.size) 36 (.pointer (some ⟨pf, 0, none⟩)) from by rw [← hw3]; have := ((((Boxed.new w 36 (.pointer (some ⟨pf, 0, none⟩))).alloc (.cells #[.string ⟨k.toArray⟩] 9)).alloc (.cells #[.int .i64 at_] 2)).alloc (.cells #[.slice xa l.length xc] 42)); exact this)
  have e1 := Boxed.cell (show Boxed w3 (w.heap.size + 1) 9 (.string ⟨k.toArray⟩) from by rw [← hw3]; have := (((Boxed.new (w.alloc (.cells #[.pointer (some ⟨pf, 0, none⟩)] 36)) 9 (.string ⟨k.toArray⟩)).alloc (.cells #[.int .i64 at_] 2)).alloc (.cells #[.slice xa l.length xc] 42)); rwa [World.size_alloc] at this)
  have e2 := Boxed.cell (show Boxed w3 (w.heap.size + 1 + 1) 2 (.int .i64 at_) from by rw [← hw3]; have := ((Boxed.new ((w.alloc (.cells #[.pointer (some ⟨pf, 0, none⟩)] 36)).alloc (.cells #[.string ⟨k.toArray⟩] 9)) 2 (.int .i64 at_)).alloc (.cells #[.slice xa l.length xc] 42)); rwa [World.size_alloc, World.size_alloc] at this)
  have e3 := Boxed.cell (show Boxed w3 (w.heap.size + 1 + 1 + 1) 42 (.slice xa l.length xc) from by rw [← hw3]; have := (Boxed.new (((w.alloc (.cells #[.pointer (some ⟨pf, 0, none⟩)] 36)).alloc (.cells #[.string ⟨k.toArray⟩] 9)).alloc (.cells #[.int .i64 at_] 2)) 42 (.slice xa l.length xc)); rwa [World.size_alloc, World.size_alloc, World.size_alloc] at this)
  have h13 := h1.kept (O := fun _ => False) (Chg.of_below hb3) (fun _ _ h => h) (fun h => h) (fun _ _ h => h) (fun _ _ h => h)
  have hpl := heap_lt h1.cells
  have hlt := h1.disk.lt
  have hrow3 := fun (W : World) (hW : Chg (· = pf) w3 W) => (hrow.below hb3).kept (fun b hb hs => hW.block b hb (fun hb2 => by obtain ⟨off, sp, e2⟩ := hs; have h9 := hxp _ e2; exact h9 (by rw [← hb2]))) (w' := W)
  have ha : Calls Tryz.prog 33 #[.pointer (some ⟨pf, 0, none⟩), .agg #[.int .i64 2, .string ⟨k.toArray⟩, .string ⟨#[]⟩, .int .i64 at_, .int .i64 (l.length : Int), .int .i64 0], .func (.func 34) #[] #[.pointer (some ⟨w.heap.size, 0, none⟩), .pointer (some ⟨w.heap.size + 1, 0, none⟩), .pointer (some ⟨w.heap.size + 1 + 1, 0, none⟩), .pointer (some ⟨w.heap.size + 1 + 1 + 1, 0, none⟩)]] w3 fun e w' => e = .returned (.int .i64 (f.ask ⟨2, k, [], at_, (l.length : Int), 0⟩ (f.disk.put k at_ l)).2) ∧ ∃ F' G', FaultAt F' G' w' pf pd (f.ask ⟨2, k, [], at_, (l.length : Int), 0⟩ (f.disk.put k at_ l)).1 ∧ Moved (fun b => F1 b ∨ b = pf ∨ vf.ownBlock = some b ∨ vd.ownBlock = some b) G1 F' G' w3 w' :=
    ask_any h13 (x := ⟨2, k, [], at_, (l.length : Int), 0⟩) rfl hdn hfl 34 _ enters_Write1 (f.disk.put k at_ l) (fun W hW hx _ => dev1_Write (h13.disk.kept hW (fun b hb e => (h13.out b (.inl hb)).1 e) (fun b hb e => (h13.out b (.inr hb)).1 e)) hx (by rfl) hk (hrow3 W hW) hnil hl h64 hok hN (hW.cell e0 (by show ¬ w.heap.size = pf; omega)) (hW.cell e1 (by show ¬ w.heap.size + 1 = pf; omega)) (hW.cell e2 (by show ¬ w.heap.size + 1 + 1 = pf; omega)) (hW.cell e3 (by show ¬ w.heap.size + 1 + 1 + 1 = pf; omega)) ⟨fun hb => by have := hlt.1 _ hb; omega, fun hb => by have := hlt.1 _ hb; omega, fun hb => by have := hlt.1 _ hb; omega, fun hb => by have := hlt.1 _ hb; omega, fun hb => (h1.out _ (.inl hb)).1 rfl⟩)
  have HZ := Lib.hid hz3
  have HW := Lib.hid hw3
  clear hz3 hw3
  go_enter Tryz.func17, Tryz.ntmps17
  go_wp2_with (first | rw [HW.out] | (go_at_call 33; refine ha.mono ?_; rintro _ w4 ⟨rfl, hq⟩))
  go_ret
  obtain ⟨F', G', k1, k2⟩ := FaultAt.ofP h2 h3 hq
  exact ⟨rfl, F', G', k1, k2.after hb3⟩
theorem enters_Cut1 : enters 126 := fun args w => by go_simp
set_option maxRecDepth 100000 in
set_option maxHeartbeats 4000000 in
theorem dev1_Cut {F1 G1 : Nat → Prop} {w : World} {pd pf bf bn ba : Nat} {s : DSt} {cs : Array Value} {e : TypeId} (h : One F1 G1 w pd s) (hx : w.heap[pf]? = some (.cells cs e (0, 0))) (hc1 : cs[1]? = some (devV pd)) {k : List UInt8} (hk : k.length ≤ maxLen) {at_ : Int} (h64 : -9223372036854775808 ≤ at_ ∧ at_ < 9223372036854775808) {N : Nat} (hok : s.Ok N) (hN : N + 1 < maxList)
    (c0 : w.cell? ⟨bf, 0, none⟩ = some (.pointer (some ⟨pf, 0, none⟩))) (c1 : w.cell? ⟨bn, 0, none⟩ = some (.string ⟨k.toArray⟩)) (c2 : w.cell? ⟨ba, 0, none⟩ = some (.int .i64 at_)) (hF : ¬ F1 bf ∧ ¬ F1 bn ∧ ¬ F1 ba ∧ ¬ F1 pf) :
    Calls Tryz.prog 126 #[.pointer (some ⟨bf, 0, none⟩), .pointer (some ⟨bn, 0, none⟩), .pointer (some ⟨ba, 0, none⟩)] w fun e w' => e = .returned (.int .i64 ((s.cut k at_).2 : Int)) ∧ ∃ F' G', One F' G' w' pd (s.cut k at_).1 ∧ Moved F1 G1 F' G' w w' := by
  have cv := cell_of_heap hx hc1
  unfold devV at cv
  have hd : One F1 G1 w.drew pd s := h.kept (O := fun _ => False) ((Chg.refl (fun _ => False) w).drew) (fun _ _ h => h) (fun _ _ h => h)
  have hcr := hd.cut hk h64 hok hN
  go_enter Tryz.func126, Tryz.ntmps126
  go_upto_region 1 with fail
  refine wp_region_held_drew (S := fun w' => w'.cell? ⟨bf, 0, none⟩ = some (.pointer (some ⟨pf, 0, none⟩)) ∧ w'.cell? ⟨bn, 0, none⟩ = some (.string ⟨k.toArray⟩) ∧ w'.cell? ⟨ba, 0, none⟩ = some (.int .i64 at_) ∧ w'.cell? ⟨pf, 1, none⟩ = some (.iface 31 (.pointer (some ⟨pd, 0, none⟩)))) (by kernel_rfl) (⟨c0, c1, c2, cv⟩) (fun hHeld => ?_)
  refine wpAnyH_take (i := 0) (v := ?_) rfl (by kernel_rfl) (by kernel_rfl) (by kernel_rfl) (fun _ _ _ h => h) (Or.inl ⟨by rfl, ?_⟩) hHeld ?_
  rotate_left
  · intro w hSw; (try dsimp only at hSw); go_simp
    all_goals (with_reducible rfl)
  (try simp only [Act.put, List.getElem_toArray, List.getElem_cons_succ, List.getElem_cons_zero, List.setIfInBounds_toArray, List.set_cons_zero, List.set_cons_succ])
  refine wpAnyH_take (i := 1) (v := ?_) rfl (by kernel_rfl) (by kernel_rfl) (by kernel_rfl) (fun _ _ _ h => h) (Or.inl ⟨by rfl, ?_⟩) hHeld ?_
  rotate_left
  · intro w hSw; (try dsimp only at hSw); go_simp
    all_goals (with_reducible rfl)
  (try simp only [Act.put, List.getElem_toArray, List.getElem_cons_succ, List.getElem_cons_zero, List.setIfInBounds_toArray, List.set_cons_zero, List.set_cons_succ])
  refine wpAnyH_take (i := 2) (v := ?_) rfl (by kernel_rfl) (by kernel_rfl) (by kernel_rfl) (fun _ _ _ h => h) (Or.inl ⟨by rfl, ?_⟩) hHeld ?_
  rotate_left
  · intro w hSw; (try dsimp only at hSw); go_simp
    all_goals (with_reducible rfl)
  (try simp only [Act.put, List.getElem_toArray, List.getElem_cons_succ, List.getElem_cons_zero, List.setIfInBounds_toArray, List.set_cons_zero, List.set_cons_succ])
  refine wpAnyH_take (i := 3) (v := ?_) rfl (by kernel_rfl) (by kernel_rfl) (by kernel_rfl) (fun _ _ _ h => h) (Or.inl ⟨by rfl, ?_⟩) hHeld ?_
  rotate_left
  · intro w hSw; (try dsimp only at hSw); go_simp
    all_goals (with_reducible rfl)
  (try simp only [Act.put, List.getElem_toArray, List.getElem_cons_succ, List.getElem_cons_zero, List.setIfInBounds_toArray, List.set_cons_zero, List.set_cons_succ])
  refine wpAnyH_take (i := 4) (v := ?_) rfl (by kernel_rfl) (by kernel_rfl) (by kernel_rfl) (fun _ _ _ h => h) (Or.inl ⟨by rfl, ?_⟩) hHeld ?_
  rotate_left
  · intro w hSw; (try dsimp only at hSw); go_simp
    all_goals (with_reducible rfl)
  (try simp only [Act.put, List.getElem_toArray, List.getElem_cons_succ, List.getElem_cons_zero, List.setIfInBounds_toArray, List.set_cons_zero, List.set_cons_succ])
  refine wpAnyH_take (i := 5) (v := ?_) rfl (by kernel_rfl) (by kernel_rfl) (by kernel_rfl) (fun _ _ _ h => h) (Or.inl ⟨by rfl, ?_⟩) hHeld ?_
  rotate_left
  · intro w hSw; (try dsimp only at hSw); go_simp
    all_goals (with_reducible rfl)
  (try simp only [Act.put, List.getElem_toArray, List.getElem_cons_succ, List.getElem_cons_zero, List.setIfInBounds_toArray, List.set_cons_zero, List.set_cons_succ])
  refine wpAnyH_ready (rs := [6]) (by kernel_rfl) (by simp) ?_
  refine AllReadyH.cons rfl (fun K hK => ?_) AllReadyH.nil
  go_simp
  go_wp2_with (go_at_call 96; refine hcr.mono ?_; rintro _ w2 ⟨rfl, F', G', ho, hmv⟩)
  have d0 := hmv.1.cell c0 hF.1
  have d1 := hmv.1.cell c1 hF.2.1
  have d2 := hmv.1.cell c2 hF.2.2.1
  have dv := hmv.1.cell cv hF.2.2.2
  
  refine hK.out _ _ (⟨d0, d1, d2, dv⟩) (fun hHeld => ?_)
  clear hK K
  (try simp only [Act.put, List.getElem_toArray, List.getElem_cons_succ, List.getElem_cons_zero, List.setIfInBounds_toArray, List.set_cons_zero, List.set_cons_succ])
  refine wpAnyH_take (i := 7) (v := ?_) rfl (by kernel_rfl) (by kernel_rfl) (by kernel_rfl) (fun _ _ _ h => h) (Or.inl ⟨by rfl, ?_⟩) hHeld ?_
  rotate_left
  · intro w hSw; (try dsimp only at hSw); go_simp
    all_goals (with_reducible rfl)
  (try simp only [Act.put, List.getElem_toArray, List.getElem_cons_succ, List.getElem_cons_zero, List.setIfInBounds_toArray, List.set_cons_zero, List.set_cons_succ])
  refine wpAnyH_done (by kernel_rfl) ?_ _
  clear hHeld
  have HM := Lib.hid (And.intro ho hmv)
  clear ho hmv hcr
  go_wp2
  go_ret
  exact ⟨rfl, F', G', HM.out.1, ((Chg.refl F1 w).drew).trans HM.out.2.1 (fun _ h _ => h), HM.out.2.2⟩
set_option maxRecDepth 100000 in
set_option maxHeartbeats 4000000 in
theorem FaultAt.cut {F G : Nat → Prop} {w : World} {pf pd : Nat} {f : FSt} (h : FaultAt F G w pf pd f) {k : List UInt8} (hk : k.length ≤ maxLen) {at_ : Int} (h64 : -9223372036854775808 ≤ at_ ∧ at_ < 9223372036854775808) {N : Nat} (hok : f.disk.Ok N) (hN : N + 1 < maxList) (hdn : f.done.length < 1048576) (hfl : f.full.length ≤ 4194304) :
    Calls Tryz.prog 122 #[.pointer (some ⟨pf, 0, none⟩), .string ⟨k.toArray⟩, .int .i64 at_] w fun e w' => e = .returned (.int .i64 (f.ask ⟨3, k, [], at_, 0, 0⟩ (f.disk.cut k at_)).2) ∧ ∃ F' G', FaultAt F' G' w' pf pd (f.ask ⟨3, k, [], at_, 0, 0⟩ (f.disk.cut k at_)).1 ∧ Moved F G F' G' w w' := by
  obtain ⟨F1, G1, vf, vd, e, h1, h2, h3⟩ := h
  obtain ⟨w3, hw3⟩ : ∃ w3, (((w.alloc (.cells #[.pointer (some ⟨pf, 0, none⟩)] 36)).alloc (.cells #[.string ⟨k.toArray⟩] 9)).alloc (.cells #[.int .i64 at_] 2)) = w3 := ⟨_, rfl⟩
  have hb3 : Below w.heap.size w w3 := by rw [← hw3]; exact (((below_alloc w _).alloc (by simp) _).alloc (by simp; omega) _)
  have hz3 : w3.heap.size = w.heap.size + 1 + 1 + 1 := by rw [← hw3]; simp
  have e0 := Boxed.cell (show Boxed w3 (w.heap.size) 36 (.pointer (some ⟨pf, 0, none⟩)) from by rw [← hw3]; have := (((Boxed.new w 36 (.pointer (some ⟨pf, 0, none⟩))).alloc (.cells #[.string ⟨k.toArray⟩] 9)).alloc (.cells #[.int .i64 at_] 2)); exact this)
  have e1 := Boxed.cell (show Boxed w3 (w.heap.size + 1) 9 (.string ⟨k.toArray⟩) from by rw [← hw3]; have := ((Boxed.new (w.alloc (.cells #[.pointer (some ⟨pf, 0, none⟩)] 36)) 9 (.string ⟨k.toArray⟩)).alloc (.cells #[.int .i64 at_] 2)); rwa [World.size_alloc] at this)
  have e2 := Boxed.cell (show Boxed w3 (w.heap.size + 1 + 1) 2 (.int .i64 at_) from by rw [← hw3]; have := (Boxed.new ((w.alloc (.cells #[.pointer (some ⟨pf, 0, none⟩)] 36)).alloc (.cells #[.string ⟨k.toArray⟩] 9)) 2 (.int .i64 at_)); rwa [World.size_alloc, World.size_alloc] at this)
  have h13 := h1.kept (O := fun _ => False) (Chg.of_below hb3) (fun _ _ h => h) (fun h => h) (fun _ _ h => h) (fun _ _ h => h)
  have hpl := heap_lt h1.cells
  have hlt := h1.disk.lt
  have ha : Calls Tryz.prog 33 #[.pointer (some ⟨pf, 0, none⟩), .agg #[.int .i64 3, .string ⟨k.toArray⟩, .string ⟨#[]⟩, .int .i64 at_, .int .i64 0, .int .i64 0], .func (.func 126) #[] #[.pointer (some ⟨w.heap.size, 0, none⟩), .pointer (some ⟨w.heap.size + 1, 0, none⟩), .pointer (some ⟨w.heap.size + 1 + 1, 0, none⟩)]] w3 fun e w' => e = .returned (.int .i64 (f.ask ⟨3, k, [], at_, 0, 0⟩ (f.disk.cut k at_)).2) ∧ ∃ F' G', FaultAt F' G' w' pf pd (f.ask ⟨3, k, [], at_, 0, 0⟩ (f.disk.cut k at_)).1 ∧ Moved (fun b => F1 b ∨ b = pf ∨ vf.ownBlock = some b ∨ vd.ownBlock = some b) G1 F' G' w3 w' :=
    ask_any h13 (x := ⟨3, k, [], at_, 0, 0⟩) rfl hdn hfl 126 _ enters_Cut1 (f.disk.cut k at_) (fun W hW hx _ => dev1_Cut (h13.disk.kept hW (fun b hb e => (h13.out b (.inl hb)).1 e) (fun b hb e => (h13.out b (.inr hb)).1 e)) hx (by rfl) hk h64 hok hN (hW.cell e0 (by show ¬ w.heap.size = pf; omega)) (hW.cell e1 (by show ¬ w.heap.size + 1 = pf; omega)) (hW.cell e2 (by show ¬ w.heap.size + 1 + 1 = pf; omega)) ⟨fun hb => by have := hlt.1 _ hb; omega, fun hb => by have := hlt.1 _ hb; omega, fun hb => by have := hlt.1 _ hb; omega, fun hb => (h1.out _ (.inl hb)).1 rfl⟩)
  have HZ := Lib.hid hz3
  have HW := Lib.hid hw3
  clear hz3 hw3
  go_enter Tryz.func122, Tryz.ntmps122
  go_wp2_with (first | rw [HW.out] | (go_at_call 33; refine ha.mono ?_; rintro _ w4 ⟨rfl, hq⟩))
  go_ret
  obtain ⟨F', G', k1, k2⟩ := FaultAt.ofP h2 h3 hq
  exact ⟨rfl, F', G', k1, k2.after hb3⟩
theorem enters_Rename1 : enters 128 := fun args w => by go_simp
set_option maxRecDepth 100000 in
set_option maxHeartbeats 4000000 in
theorem dev1_Rename {F1 G1 : Nat → Prop} {w : World} {pd pf bf bn ba : Nat} {s : DSt} {cs : Array Value} {e : TypeId} (h : One F1 G1 w pd s) (hx : w.heap[pf]? = some (.cells cs e (0, 0))) (hc1 : cs[1]? = some (devV pd)) {k t : List UInt8} (hk : k.length ≤ maxLen) (hkt : t.length ≤ maxLen) {N : Nat} (hok : s.Ok N) (hN : N + 1 < maxList)
    (c0 : w.cell? ⟨bf, 0, none⟩ = some (.pointer (some ⟨pf, 0, none⟩))) (c1 : w.cell? ⟨bn, 0, none⟩ = some (.string ⟨k.toArray⟩)) (c2 : w.cell? ⟨ba, 0, none⟩ = some (.string ⟨t.toArray⟩)) (hF : ¬ F1 bf ∧ ¬ F1 bn ∧ ¬ F1 ba ∧ ¬ F1 pf) :
    Calls Tryz.prog 128 #[.pointer (some ⟨bf, 0, none⟩), .pointer (some ⟨bn, 0, none⟩), .pointer (some ⟨ba, 0, none⟩)] w fun e w' => e = .returned (.int .i64 ((s.rename k t).2 : Int)) ∧ ∃ F' G', One F' G' w' pd (s.rename k t).1 ∧ Moved F1 G1 F' G' w w' := by
  have cv := cell_of_heap hx hc1
  unfold devV at cv
  have hd : One F1 G1 w.drew pd s := h.kept (O := fun _ => False) ((Chg.refl (fun _ => False) w).drew) (fun _ _ h => h) (fun _ _ h => h)
  have hcr := hd.rename hk hkt hok hN
  go_enter Tryz.func128, Tryz.ntmps128
  go_upto_region 1 with fail
  refine wp_region_held_drew (S := fun w' => w'.cell? ⟨bf, 0, none⟩ = some (.pointer (some ⟨pf, 0, none⟩)) ∧ w'.cell? ⟨bn, 0, none⟩ = some (.string ⟨k.toArray⟩) ∧ w'.cell? ⟨ba, 0, none⟩ = some (.string ⟨t.toArray⟩) ∧ w'.cell? ⟨pf, 1, none⟩ = some (.iface 31 (.pointer (some ⟨pd, 0, none⟩)))) (by kernel_rfl) (⟨c0, c1, c2, cv⟩) (fun hHeld => ?_)
  refine wpAnyH_take (i := 0) (v := ?_) rfl (by kernel_rfl) (by kernel_rfl) (by kernel_rfl) (fun _ _ _ h => h) (Or.inl ⟨by rfl, ?_⟩) hHeld ?_
  rotate_left
  · intro w hSw; (try dsimp only at hSw); go_simp
    all_goals (with_reducible rfl)
  (try simp only [Act.put, List.getElem_toArray, List.getElem_cons_succ, List.getElem_cons_zero, List.setIfInBounds_toArray, List.set_cons_zero, List.set_cons_succ])
  refine wpAnyH_take (i := 1) (v := ?_) rfl (by kernel_rfl) (by kernel_rfl) (by kernel_rfl) (fun _ _ _ h => h) (Or.inl ⟨by rfl, ?_⟩) hHeld ?_
  rotate_left
  · intro w hSw; (try dsimp only at hSw); go_simp
    all_goals (with_reducible rfl)
  (try simp only [Act.put, List.getElem_toArray, List.getElem_cons_succ, List.getElem_cons_zero, List.setIfInBounds_toArray, List.set_cons_zero, List.set_cons_succ])
  refine wpAnyH_take (i := 2) (v := ?_) rfl (by kernel_rfl) (by kernel_rfl) (by kernel_rfl) (fun _ _ _ h => h) (Or.inl ⟨by rfl, ?_⟩) hHeld ?_
  rotate_left
  · intro w hSw; (try dsimp only at hSw); go_simp
    all_goals (with_reducible rfl)
  (try simp only [Act.put, List.getElem_toArray, List.getElem_cons_succ, List.getElem_cons_zero, List.setIfInBounds_toArray, List.set_cons_zero, List.set_cons_succ])
  refine wpAnyH_take (i := 3) (v := ?_) rfl (by kernel_rfl) (by kernel_rfl) (by kernel_rfl) (fun _ _ _ h => h) (Or.inl ⟨by rfl, ?_⟩) hHeld ?_
  rotate_left
  · intro w hSw; (try dsimp only at hSw); go_simp
    all_goals (with_reducible rfl)
  (try simp only [Act.put, List.getElem_toArray, List.getElem_cons_succ, List.getElem_cons_zero, List.setIfInBounds_toArray, List.set_cons_zero, List.set_cons_succ])
  refine wpAnyH_take (i := 4) (v := ?_) rfl (by kernel_rfl) (by kernel_rfl) (by kernel_rfl) (fun _ _ _ h => h) (Or.inl ⟨by rfl, ?_⟩) hHeld ?_
  rotate_left
  · intro w hSw; (try dsimp only at hSw); go_simp
    all_goals (with_reducible rfl)
  (try simp only [Act.put, List.getElem_toArray, List.getElem_cons_succ, List.getElem_cons_zero, List.setIfInBounds_toArray, List.set_cons_zero, List.set_cons_succ])
  refine wpAnyH_take (i := 5) (v := ?_) rfl (by kernel_rfl) (by kernel_rfl) (by kernel_rfl) (fun _ _ _ h => h) (Or.inl ⟨by rfl, ?_⟩) hHeld ?_
  rotate_left
  · intro w hSw; (try dsimp only at hSw); go_simp
    all_goals (with_reducible rfl)
  (try simp only [Act.put, List.getElem_toArray, List.getElem_cons_succ, List.getElem_cons_zero, List.setIfInBounds_toArray, List.set_cons_zero, List.set_cons_succ])
  refine wpAnyH_ready (rs := [6]) (by kernel_rfl) (by simp) ?_
  refine AllReadyH.cons rfl (fun K hK => ?_) AllReadyH.nil
  go_simp
  go_wp2_with (go_at_call 99; refine hcr.mono ?_; rintro _ w2 ⟨rfl, F', G', ho, hmv⟩)
  have d0 := hmv.1.cell c0 hF.1
  have d1 := hmv.1.cell c1 hF.2.1
  have d2 := hmv.1.cell c2 hF.2.2.1
  have dv := hmv.1.cell cv hF.2.2.2
  
  refine hK.out _ _ (⟨d0, d1, d2, dv⟩) (fun hHeld => ?_)
  clear hK K
  (try simp only [Act.put, List.getElem_toArray, List.getElem_cons_succ, List.getElem_cons_zero, List.setIfInBounds_toArray, List.set_cons_zero, List.set_cons_succ])
  refine wpAnyH_take (i := 7) (v := ?_) rfl (by kernel_rfl) (by kernel_rfl) (by kernel_rfl) (fun _ _ _ h => h) (Or.inl ⟨by rfl, ?_⟩) hHeld ?_
  rotate_left
  · intro w hSw; (try dsimp only at hSw); go_simp
    all_goals (with_reducible rfl)
  (try simp only [Act.put, List.getElem_toArray, List.getElem_cons_succ, List.getElem_cons_zero, List.setIfInBounds_toArray, List.set_cons_zero, List.set_cons_succ])
  refine wpAnyH_done (by kernel_rfl) ?_ _
  clear hHeld
  have HM := Lib.hid (And.intro ho hmv)
  clear ho hmv hcr
  go_wp2
  go_ret
  exact ⟨rfl, F', G', HM.out.1, ((Chg.refl F1 w).drew).trans HM.out.2.1 (fun _ h _ => h), HM.out.2.2⟩
set_option maxRecDepth 100000 in
set_option maxHeartbeats 4000000 in
theorem FaultAt.rename {F G : Nat → Prop} {w : World} {pf pd : Nat} {f : FSt} (h : FaultAt F G w pf pd f) {k t : List UInt8} (hk : k.length ≤ maxLen) (hkt : t.length ≤ maxLen) {N : Nat} (hok : f.disk.Ok N) (hN : N + 1 < maxList) (hdn : f.done.length < 1048576) (hfl : f.full.length ≤ 4194304) :
    Calls Tryz.prog 124 #[.pointer (some ⟨pf, 0, none⟩), .string ⟨k.toArray⟩, .string ⟨t.toArray⟩] w fun e w' => e = .returned (.int .i64 (f.ask ⟨6, k, t, 0, 0, 0⟩ (f.disk.rename k t)).2) ∧ ∃ F' G', FaultAt F' G' w' pf pd (f.ask ⟨6, k, t, 0, 0, 0⟩ (f.disk.rename k t)).1 ∧ Moved F G F' G' w w' := by
  obtain ⟨F1, G1, vf, vd, e, h1, h2, h3⟩ := h
  obtain ⟨w3, hw3⟩ : ∃ w3, (((w.alloc (.cells #[.pointer (some ⟨pf, 0, none⟩)] 36)).alloc (.cells #[.string ⟨k.toArray⟩] 9)).alloc (.cells #[.string ⟨t.toArray⟩] 9)) = w3 := ⟨_, rfl⟩
  have hb3 : Below w.heap.size w w3 := by rw [← hw3]; exact (((below_alloc w _).alloc (by simp) _).alloc (by simp; omega) _)
  have hz3 : w3.heap.size = w.heap.size + 1 + 1 + 1 := by rw [← hw3]; simp
  have e0 := Boxed.cell (show Boxed w3 (w.heap.size) 36 (.pointer (some ⟨pf, 0, none⟩)) from by rw [← hw3]; have := (((Boxed.new w 36 (.pointer (some ⟨pf, 0, none⟩))).alloc (.cells #[.string ⟨k.toArray⟩] 9)).alloc (.cells #[.string ⟨t.toArray⟩] 9)); exact this)
  have e1 := Boxed.cell (show Boxed w3 (w.heap.size + 1) 9 (.string ⟨k.toArray⟩) from by rw [← hw3]; have := ((Boxed.new (w.alloc (.cells #[.pointer (some ⟨pf, 0, none⟩)] 36)) 9 (.string ⟨k.toArray⟩)).alloc (.cells #[.string ⟨t.toArray⟩] 9)); rwa [World.size_alloc] at this)
  have e2 := Boxed.cell (show Boxed w3 (w.heap.size + 1 + 1) 9 (.string ⟨t.toArray⟩) from by rw [← hw3]; have := (Boxed.new ((w.alloc (.cells #[.pointer (some ⟨pf, 0, none⟩)] 36)).alloc (.cells #[.string ⟨k.toArray⟩] 9)) 9 (.string ⟨t.toArray⟩)); rwa [World.size_alloc, World.size_alloc] at this)
  have h13 := h1.kept (O := fun _ => False) (Chg.of_below hb3) (fun _ _ h => h) (fun h => h) (fun _ _ h => h) (fun _ _ h => h)
  have hpl := heap_lt h1.cells
  have hlt := h1.disk.lt
  have ha : Calls Tryz.prog 33 #[.pointer (some ⟨pf, 0, none⟩), .agg #[.int .i64 6, .string ⟨k.toArray⟩, .string ⟨t.toArray⟩, .int .i64 0, .int .i64 0, .int .i64 0], .func (.func 128) #[] #[.pointer (some ⟨w.heap.size, 0, none⟩), .pointer (some ⟨w.heap.size + 1, 0, none⟩), .pointer (some ⟨w.heap.size + 1 + 1, 0, none⟩)]] w3 fun e w' => e = .returned (.int .i64 (f.ask ⟨6, k, t, 0, 0, 0⟩ (f.disk.rename k t)).2) ∧ ∃ F' G', FaultAt F' G' w' pf pd (f.ask ⟨6, k, t, 0, 0, 0⟩ (f.disk.rename k t)).1 ∧ Moved (fun b => F1 b ∨ b = pf ∨ vf.ownBlock = some b ∨ vd.ownBlock = some b) G1 F' G' w3 w' :=
    ask_any h13 (x := ⟨6, k, t, 0, 0, 0⟩) rfl hdn hfl 128 _ enters_Rename1 (f.disk.rename k t) (fun W hW hx _ => dev1_Rename (h13.disk.kept hW (fun b hb e => (h13.out b (.inl hb)).1 e) (fun b hb e => (h13.out b (.inr hb)).1 e)) hx (by rfl) hk hkt hok hN (hW.cell e0 (by show ¬ w.heap.size = pf; omega)) (hW.cell e1 (by show ¬ w.heap.size + 1 = pf; omega)) (hW.cell e2 (by show ¬ w.heap.size + 1 + 1 = pf; omega)) ⟨fun hb => by have := hlt.1 _ hb; omega, fun hb => by have := hlt.1 _ hb; omega, fun hb => by have := hlt.1 _ hb; omega, fun hb => (h1.out _ (.inl hb)).1 rfl⟩)
  have HZ := Lib.hid hz3
  have HW := Lib.hid hw3
  clear hz3 hw3
  go_enter Tryz.func124, Tryz.ntmps124
  go_wp2_with (first | rw [HW.out] | (go_at_call 33; refine ha.mono ?_; rintro _ w4 ⟨rfl, hq⟩))
  go_ret
  obtain ⟨F', G', k1, k2⟩ := FaultAt.ofP h2 h3 hq
  exact ⟨rfl, F', G', k1, k2.after hb3⟩
theorem enters_SyncNames1 : enters 129 := fun args w => by go_simp
set_option maxRecDepth 100000 in
set_option maxHeartbeats 4000000 in
theorem dev1_SyncNames {F1 G1 : Nat → Prop} {w : World} {pd pf bf : Nat} {s : DSt} {cs : Array Value} {e : TypeId} (h : One F1 G1 w pd s) (hx : w.heap[pf]? = some (.cells cs e (0, 0))) (hc1 : cs[1]? = some (devV pd))  {N : Nat} (hok : s.Ok N) (hN : N + 1 < maxList)
    (c0 : w.cell? ⟨bf, 0, none⟩ = some (.pointer (some ⟨pf, 0, none⟩))) (hF : ¬ F1 bf ∧ ¬ F1 pf) :
    Calls Tryz.prog 129 #[.pointer (some ⟨bf, 0, none⟩)] w fun e w' => e = .returned (.int .i64 ((s.syncNames).2 : Int)) ∧ ∃ F' G', One F' G' w' pd (s.syncNames).1 ∧ Moved F1 G1 F' G' w w' := by
  have cv := cell_of_heap hx hc1
  unfold devV at cv
  have hd := h
  have hcr := hd.syncNames hok hN
  go_enter Tryz.func129, Tryz.ntmps129
  go_wp2_with (go_at_call 101; refine hcr.mono ?_; rintro _ w2 ⟨rfl, hq⟩)
  go_ret
  exact ⟨rfl, hq⟩
set_option maxRecDepth 100000 in
set_option maxHeartbeats 4000000 in
theorem FaultAt.syncNames {F G : Nat → Prop} {w : World} {pf pd : Nat} {f : FSt} (h : FaultAt F G w pf pd f)  {N : Nat} (hok : f.disk.Ok N) (hN : N + 1 < maxList) (hdn : f.done.length < 1048576) (hfl : f.full.length ≤ 4194304) :
    Calls Tryz.prog 125 #[.pointer (some ⟨pf, 0, none⟩)] w fun e w' => e = .returned (.int .i64 (f.ask ⟨5, [], [], 0, 0, 0⟩ (f.disk.syncNames)).2) ∧ ∃ F' G', FaultAt F' G' w' pf pd (f.ask ⟨5, [], [], 0, 0, 0⟩ (f.disk.syncNames)).1 ∧ Moved F G F' G' w w' := by
  obtain ⟨F1, G1, vf, vd, e, h1, h2, h3⟩ := h
  obtain ⟨w3, hw3⟩ : ∃ w3, (w.alloc (.cells #[.pointer (some ⟨pf, 0, none⟩)] 36)) = w3 := ⟨_, rfl⟩
  have hb3 : Below w.heap.size w w3 := by rw [← hw3]; exact (below_alloc w _)
  have hz3 : w3.heap.size = w.heap.size + 1 := by rw [← hw3]; simp
  have e0 := Boxed.cell (show Boxed w3 (w.heap.size) 36 (.pointer (some ⟨pf, 0, none⟩)) from by rw [← hw3]; have := (Boxed.new w 36 (.pointer (some ⟨pf, 0, none⟩))); exact this)
  have h13 := h1.kept (O := fun _ => False) (Chg.of_below hb3) (fun _ _ h => h) (fun h => h) (fun _ _ h => h) (fun _ _ h => h)
  have hpl := heap_lt h1.cells
  have hlt := h1.disk.lt
  have ha : Calls Tryz.prog 33 #[.pointer (some ⟨pf, 0, none⟩), .agg #[.int .i64 5, .string ⟨#[]⟩, .string ⟨#[]⟩, .int .i64 0, .int .i64 0, .int .i64 0], .func (.func 129) #[] #[.pointer (some ⟨w.heap.size, 0, none⟩)]] w3 fun e w' => e = .returned (.int .i64 (f.ask ⟨5, [], [], 0, 0, 0⟩ (f.disk.syncNames)).2) ∧ ∃ F' G', FaultAt F' G' w' pf pd (f.ask ⟨5, [], [], 0, 0, 0⟩ (f.disk.syncNames)).1 ∧ Moved (fun b => F1 b ∨ b = pf ∨ vf.ownBlock = some b ∨ vd.ownBlock = some b) G1 F' G' w3 w' :=
    ask_any h13 (x := ⟨5, [], [], 0, 0, 0⟩) rfl hdn hfl 129 _ enters_SyncNames1 (f.disk.syncNames) (fun W hW hx _ => dev1_SyncNames (h13.disk.kept hW (fun b hb e => (h13.out b (.inl hb)).1 e) (fun b hb e => (h13.out b (.inr hb)).1 e)) hx (by rfl)  hok hN (hW.cell e0 (by show ¬ w.heap.size = pf; omega)) ⟨fun hb => by have := hlt.1 _ hb; omega, fun hb => (h1.out _ (.inl hb)).1 rfl⟩)
  have HZ := Lib.hid hz3
  have HW := Lib.hid hw3
  clear hz3 hw3
  go_enter Tryz.func125, Tryz.ntmps125
  go_wp2_with (first | rw [HW.out] | (go_at_call 33; refine ha.mono ?_; rintro _ w4 ⟨rfl, hq⟩))
  go_ret
  obtain ⟨F', G', k1, k2⟩ := FaultAt.ofP h2 h3 hq
  exact ⟨rfl, F', G', k1, k2.after hb3⟩
end Go.Proofs.YtehmnmpkfbginaaGreat
