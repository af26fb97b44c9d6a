/- Texts of this claim, one behind the other: FaF, FaG, FaH, FaI, Fv1, Fv3, Fv4. -/
import Derived.Test.YtlmdpcaikhdenaaGreatSl33
import Derived.Test.YtlmdpcaikhdenaaGreatSl28
import Derived.Test.YtlmdpcaikhdenaaGreatSl29
set_option linter.unusedSimpArgs false
set_option linter.unusedVariables false
/- The device over the disk: Write, Cut, SyncNames, Rename. (printed by gen/fmeth2.py) -/
namespace Go.Proofs.YtlmdpcaikhdenaaGreat
open Go.RowKit Go.Maps

theorem enters_Write1 : enters 144 := fun args w => by go_simp
set_option maxRecDepth 100000 in
set_option maxHeartbeats 4000000 in
theorem dev1_Write {F1 G1 : Nat → Prop} {w : World} {pd pf bf bn ba bb : Nat} {s : DSt} {cs : Array Value} {e : TypeId} (h : One F1 G1 w pd s) (hx : w.heap[pf]? = some (.cells cs e (0, 0))) (hc1 : cs[1]? = some (devV pd)) {k : List UInt8} (hk : k.length ≤ maxLen) {at_ : Int} {xa : Option Addr} {xc : Nat} {l : List UInt8} (hrow : RowAt w xa (l.map bv)) (hnil : xa = none → xc = 0) (hl : l.length ≤ 140737488355328) (h64 : -9223372036854775808 ≤ at_ ∧ at_ < 9223372036854775808) {N : Nat} (hok : s.Ok N) (hN : N + 1 < maxList)
    (c0 : w.cell? ⟨bf, 0, none⟩ = some (.pointer (some ⟨pf, 0, none⟩))) (c1 : w.cell? ⟨bn, 0, none⟩ = some (.string ⟨k.toArray⟩)) (c2 : w.cell? ⟨ba, 0, none⟩ = some (.int .i64 at_)) (c3 : w.cell? ⟨bb, 0, none⟩ = some (.slice xa l.length xc)) (hF : ¬ F1 bf ∧ ¬ F1 bn ∧ ¬ F1 ba ∧ ¬ F1 bb ∧ ¬ F1 pf) :
    Calls Tryz.prog 144 #[.pointer (some ⟨bf, 0, none⟩), .pointer (some ⟨bn, 0, none⟩), .pointer (some ⟨ba, 0, none⟩), .pointer (some ⟨bb, 0, none⟩)] w fun e w' => e = .returned (.int .i64 ((s.put k at_ l).2 : Int)) ∧ ∃ F' G', One F' G' w' pd (s.put k at_ l).1 ∧ Moved F1 G1 F' G' w w' := by
  have cv := cell_of_heap hx hc1
  unfold devV at cv
  have hd : One F1 G1 w.drew pd s := h.kept (O := fun _ => False) ((Chg.refl (fun _ => False) w).drew) (fun _ _ h => h) (fun _ _ h => h)
  have hcr := hd.put hk (fun h => hrow h) hnil hl h64 hok hN
  go_enter Tryz.func144, Tryz.ntmps144
  go_upto_region 1 with fail
  refine wp_region_held_drew (S := fun w' => w'.cell? ⟨bf, 0, none⟩ = some (.pointer (some ⟨pf, 0, none⟩)) ∧ w'.cell? ⟨bn, 0, none⟩ = some (.string ⟨k.toArray⟩) ∧ w'.cell? ⟨ba, 0, none⟩ = some (.int .i64 at_) ∧ w'.cell? ⟨bb, 0, none⟩ = some (.slice xa l.length xc) ∧ w'.cell? ⟨pf, 1, none⟩ = some (.iface 45 (.pointer (some ⟨pd, 0, none⟩)))) (by kernel_rfl) (⟨c0, c1, c2, c3, cv⟩) (fun hHeld => ?_)
  refine wpAnyH_take (i := 0) (v := ?_) rfl (by kernel_rfl) (by kernel_rfl) (by kernel_rfl) (fun _ _ _ h => h) (Or.inl ⟨by rfl, ?_⟩) hHeld ?_
  rotate_left
  · intro w hSw; (try dsimp only at hSw); go_simp
    all_goals (with_reducible rfl)
  (try simp only [Act.put, List.getElem_toArray, List.getElem_cons_succ, List.getElem_cons_zero, List.setIfInBounds_toArray, List.set_cons_zero, List.set_cons_succ])
  refine wpAnyH_take (i := 1) (v := ?_) rfl (by kernel_rfl) (by kernel_rfl) (by kernel_rfl) (fun _ _ _ h => h) (Or.inl ⟨by rfl, ?_⟩) hHeld ?_
  rotate_left
  · intro w hSw; (try dsimp only at hSw); go_simp
    all_goals (with_reducible rfl)
  (try simp only [Act.put, List.getElem_toArray, List.getElem_cons_succ, List.getElem_cons_zero, List.setIfInBounds_toArray, List.set_cons_zero, List.set_cons_succ])
  refine wpAnyH_take (i := 2) (v := ?_) rfl (by kernel_rfl) (by kernel_rfl) (by kernel_rfl) (fun _ _ _ h => h) (Or.inl ⟨by rfl, ?_⟩) hHeld ?_
  rotate_left
  · intro w hSw; (try dsimp only at hSw); go_simp
    all_goals (with_reducible rfl)
  (try simp only [Act.put, List.getElem_toArray, List.getElem_cons_succ, List.getElem_cons_zero, List.setIfInBounds_toArray, List.set_cons_zero, List.set_cons_succ])
  refine wpAnyH_take (i := 3) (v := ?_) rfl (by kernel_rfl) (by kernel_rfl) (by kernel_rfl) (fun _ _ _ h => h) (Or.inl ⟨by rfl, ?_⟩) hHeld ?_
  rotate_left
  · intro w hSw; (try dsimp only at hSw); go_simp
    all_goals (with_reducible rfl)
  (try simp only [Act.put, List.getElem_toArray, List.getElem_cons_succ, List.getElem_cons_zero, List.setIfInBounds_toArray, List.set_cons_zero, List.set_cons_succ])
  refine wpAnyH_take (i := 4) (v := ?_) rfl (by kernel_rfl) (by kernel_rfl) (by kernel_rfl) (fun _ _ _ h => h) (Or.inl ⟨by rfl, ?_⟩) hHeld ?_
  rotate_left
  · intro w hSw; (try dsimp only at hSw); go_simp
    all_goals (with_reducible rfl)
  (try simp only [Act.put, List.getElem_toArray, List.getElem_cons_succ, List.getElem_cons_zero, List.setIfInBounds_toArray, List.set_cons_zero, List.set_cons_succ])
  refine wpAnyH_take (i := 5) (v := ?_) rfl (by kernel_rfl) (by kernel_rfl) (by kernel_rfl) (fun _ _ _ h => h) (Or.inl ⟨by rfl, ?_⟩) hHeld ?_
  rotate_left
  · intro w hSw; (try dsimp only at hSw); go_simp
    all_goals (with_reducible rfl)
  (try simp only [Act.put, List.getElem_toArray, List.getElem_cons_succ, List.getElem_cons_zero, List.setIfInBounds_toArray, List.set_cons_zero, List.set_cons_succ])
  refine wpAnyH_take (i := 6) (v := ?_) rfl (by kernel_rfl) (by kernel_rfl) (by kernel_rfl) (fun _ _ _ h => h) (Or.inl ⟨by rfl, ?_⟩) hHeld ?_
  rotate_left
  · intro w hSw; (try dsimp only at hSw); go_simp
    all_goals (with_reducible rfl)
  (try simp only [Act.put, List.getElem_toArray, List.getElem_cons_succ, List.getElem_cons_zero, List.setIfInBounds_toArray, List.set_cons_zero, List.set_cons_succ])
  refine wpAnyH_ready (rs := [7]) (by kernel_rfl) (by simp) ?_
  refine AllReadyH.cons rfl (fun K hK => ?_) AllReadyH.nil
  go_simp
  go_wp2_with (go_at_call 226; refine hcr.mono ?_; rintro _ w2 ⟨rfl, F', G', ho, hmv⟩)
  have d0 := hmv.1.cell c0 hF.1
  have d1 := hmv.1.cell c1 hF.2.1
  have d2 := hmv.1.cell c2 hF.2.2.1
  have d3 := hmv.1.cell c3 hF.2.2.2.1
  have dv := hmv.1.cell cv hF.2.2.2.2
  
  refine hK.out _ _ (⟨d0, d1, d2, d3, dv⟩) (fun hHeld => ?_)
  clear hK K
  (try simp only [Act.put, List.getElem_toArray, List.getElem_cons_succ, List.getElem_cons_zero, List.setIfInBounds_toArray, List.set_cons_zero, List.set_cons_succ])
  refine wpAnyH_take (i := 8) (v := ?_) rfl (by kernel_rfl) (by kernel_rfl) (by kernel_rfl) (fun _ _ _ h => h) (Or.inl ⟨by rfl, ?_⟩) hHeld ?_
  rotate_left
  · intro w hSw; (try dsimp only at hSw); go_simp
    all_goals (with_reducible rfl)
  (try simp only [Act.put, List.getElem_toArray, List.getElem_cons_succ, List.getElem_cons_zero, List.setIfInBounds_toArray, List.set_cons_zero, List.set_cons_succ])
  refine wpAnyH_done (by kernel_rfl) ?_ _
  clear hHeld
  have HM := Lib.hid (And.intro ho hmv)
  clear ho hmv hcr
  go_wp2
  go_ret
  exact ⟨rfl, F', G', HM.out.1, ((Chg.refl F1 w).drew).trans HM.out.2.1 (fun _ h _ => h), HM.out.2.2⟩
set_option maxRecDepth 100000 in
set_option maxHeartbeats 4000000 in
theorem FaultAt.put {F G : Nat → Prop} {w : World} {pf pd : Nat} {f : FSt} (h : FaultAt F G w pf pd f) {k : List UInt8} (hk : k.length ≤ maxLen) {at_ : Int} {xa : Option Addr} {xc : Nat} {l : List UInt8} (hrow : RowAt w xa (l.map bv)) (hnil : xa = none → xc = 0) (hl : l.length ≤ 140737488355328) (hxp : ∀ y, xa = some y → y.block ≠ pf) (h64 : -9223372036854775808 ≤ at_ ∧ at_ < 9223372036854775808) {N : Nat} (hok : f.disk.Ok N) (hN : N + 1 < maxList) (hdn : f.done.length < 1048576) (hfl : f.full.length ≤ 4194304) :
    Calls Tryz.prog 104 #[.pointer (some ⟨pf, 0, none⟩), .string ⟨k.toArray⟩, .int .i64 at_, .slice xa l.length xc] w fun e w' => e = .returned (.int .i64 (f.ask ⟨2, k, [], at_, (l.length : Int), 0⟩ (f.disk.put k at_ l)).2) ∧ ∃ F' G', FaultAt F' G' w' pf pd (f.ask ⟨2, k, [], at_, (l.length : Int), 0⟩ (f.disk.put k at_ l)).1 ∧ Moved F G F' G' w w' := by
  obtain ⟨F1, G1, vf, vd, e, h1, h2, h3⟩ := h
  obtain ⟨w3, hw3⟩ : ∃ w3, ((((w.alloc (.cells #[.pointer (some ⟨pf, 0, none⟩)] 65)).alloc (.cells #[.string ⟨k.toArray⟩] 9)).alloc (.cells #[.int .i64 at_] 2)).alloc (.cells #[.slice xa l.length xc] 26)) = w3 := ⟨_, rfl⟩
  have hb3 : Below w.heap.size w w3 := by rw [← hw3]; exact ((((below_alloc w _).alloc (by simp) _).alloc (by simp; omega) _).alloc (by simp; omega) _)
  have hz3 : w3.heap.size = w.heap.size + 1 + 1 + 1 + 1 := by rw [← hw3]; simp
  have e0 := Boxed.cell (show Boxed w3 (w.heap.size) 65 (.pointer (some ⟨pf, 0, none⟩)) from by rw [← hw3]; have := ((((Boxed.new w 65 (.pointer (some ⟨pf, 0, none⟩))).alloc (.cells #[.string ⟨k.toArray⟩] 9)).alloc (.cells #[.int .i64 at_] 2)).alloc (.cells #[.slice xa l.length xc] 26)); exact this)
  have e1 := Boxed.cell (show Boxed w3 (w.heap.size + 1) 9 (.string ⟨k.toArray⟩) from by rw [← hw3]; have := (((Boxed.new (w.alloc (.cells #[.pointer (some ⟨pf, 0, none⟩)] 65)) 9 (.string ⟨k.toArray⟩)).alloc (.cells #[.int .i64 at_] 2)).alloc (.cells #[.slice xa l.length xc] 26)); rwa [World.size_alloc] at this)
  have e2 := Boxed.cell (show Boxed w3 (w.heap.size + 1 + 1) 2 (.int .i64 at_) from by rw [← hw3]; have := ((Boxed.new ((w.alloc (.cells #[.pointer (some ⟨pf, 0, none⟩)] 65)).alloc (.cells #[.string ⟨k.toArray⟩] 9)) 2 (.int .i64 at_)).alloc (.cells #[.slice xa l.length xc] 26)); rwa [World.size_alloc, World.size_alloc] at this)
  have e3 := Boxed.cell (show Boxed w3 (w.heap.size + 1 + 1 + 1) 26 (.slice xa l.length xc) from by rw [← hw3]; have := (Boxed.new (((w.alloc (.cells #[.pointer (some ⟨pf, 0, none⟩)] 65)).alloc (.cells #[.string ⟨k.toArray⟩] 9)).alloc (.cells #[.int .i64 at_] 2)) 26 (.slice xa l.length xc)); rwa [World.size_alloc, World.size_alloc, World.size_alloc] at this)
  have h13 := h1.kept (O := fun _ => False) (Chg.of_below hb3) (fun _ _ h => h) (fun h => h) (fun _ _ h => h) (fun _ _ h => h)
  have hpl := heap_lt h1.cells
  have hlt := h1.disk.lt
  have hrow3 := fun (W : World) (hW : Chg (· = pf) w3 W) => (hrow.below hb3).kept (fun b hb hs => hW.block b hb (fun hb2 => by obtain ⟨off, sp, e2⟩ := hs; have h9 := hxp _ e2; exact h9 (by rw [← hb2]))) (w' := W)
  have ha : Calls Tryz.prog 106 #[.pointer (some ⟨pf, 0, none⟩), .agg #[.int .i64 2, .string ⟨k.toArray⟩, .string ⟨#[]⟩, .int .i64 at_, .int .i64 (l.length : Int), .int .i64 0], .func (.func 144) #[] #[.pointer (some ⟨w.heap.size, 0, none⟩), .pointer (some ⟨w.heap.size + 1, 0, none⟩), .pointer (some ⟨w.heap.size + 1 + 1, 0, none⟩), .pointer (some ⟨w.heap.size + 1 + 1 + 1, 0, none⟩)]] w3 fun e w' => e = .returned (.int .i64 (f.ask ⟨2, k, [], at_, (l.length : Int), 0⟩ (f.disk.put k at_ l)).2) ∧ ∃ F' G', FaultAt F' G' w' pf pd (f.ask ⟨2, k, [], at_, (l.length : Int), 0⟩ (f.disk.put k at_ l)).1 ∧ Moved (fun b => F1 b ∨ b = pf ∨ vf.ownBlock = some b ∨ vd.ownBlock = some b) G1 F' G' w3 w' :=
    ask_any h13 (x := ⟨2, k, [], at_, (l.length : Int), 0⟩) rfl hdn hfl 144 _ enters_Write1 (f.disk.put k at_ l) (fun W hW hx _ => dev1_Write (h13.disk.kept hW (fun b hb e => (h13.out b (.inl hb)).1 e) (fun b hb e => (h13.out b (.inr hb)).1 e)) hx (by rfl) hk (hrow3 W hW) hnil hl h64 hok hN (hW.cell e0 (by show ¬ w.heap.size = pf; omega)) (hW.cell e1 (by show ¬ w.heap.size + 1 = pf; omega)) (hW.cell e2 (by show ¬ w.heap.size + 1 + 1 = pf; omega)) (hW.cell e3 (by show ¬ w.heap.size + 1 + 1 + 1 = pf; omega)) ⟨fun hb => by have := hlt.1 _ hb; omega, fun hb => by have := hlt.1 _ hb; omega, fun hb => by have := hlt.1 _ hb; omega, fun hb => by have := hlt.1 _ hb; omega, fun hb => (h1.out _ (.inl hb)).1 rfl⟩)
  have HZ := Lib.hid hz3
  have HW := Lib.hid hw3
  clear hz3 hw3
  go_enter Tryz.func104, Tryz.ntmps104
  go_wp2_with (first | rw [HW.out] | (go_at_call 106; refine ha.mono ?_; rintro _ w4 ⟨rfl, hq⟩))
  go_ret
  obtain ⟨F', G', k1, k2⟩ := FaultAt.ofP h2 h3 hq
  exact ⟨rfl, F', G', k1, k2.after hb3⟩
theorem enters_Cut1 : enters 254 := fun args w => by go_simp
set_option maxRecDepth 100000 in
set_option maxHeartbeats 4000000 in
theorem dev1_Cut {F1 G1 : Nat → Prop} {w : World} {pd pf bf bn ba : Nat} {s : DSt} {cs : Array Value} {e : TypeId} (h : One F1 G1 w pd s) (hx : w.heap[pf]? = some (.cells cs e (0, 0))) (hc1 : cs[1]? = some (devV pd)) {k : List UInt8} (hk : k.length ≤ maxLen) {at_ : Int} (h64 : -9223372036854775808 ≤ at_ ∧ at_ < 9223372036854775808) {N : Nat} (hok : s.Ok N) (hN : N + 1 < maxList)
    (c0 : w.cell? ⟨bf, 0, none⟩ = some (.pointer (some ⟨pf, 0, none⟩))) (c1 : w.cell? ⟨bn, 0, none⟩ = some (.string ⟨k.toArray⟩)) (c2 : w.cell? ⟨ba, 0, none⟩ = some (.int .i64 at_)) (hF : ¬ F1 bf ∧ ¬ F1 bn ∧ ¬ F1 ba ∧ ¬ F1 pf) :
    Calls Tryz.prog 254 #[.pointer (some ⟨bf, 0, none⟩), .pointer (some ⟨bn, 0, none⟩), .pointer (some ⟨ba, 0, none⟩)] w fun e w' => e = .returned (.int .i64 ((s.cut k at_).2 : Int)) ∧ ∃ F' G', One F' G' w' pd (s.cut k at_).1 ∧ Moved F1 G1 F' G' w w' := by
  have cv := cell_of_heap hx hc1
  unfold devV at cv
  have hd : One F1 G1 w.drew pd s := h.kept (O := fun _ => False) ((Chg.refl (fun _ => False) w).drew) (fun _ _ h => h) (fun _ _ h => h)
  have hcr := hd.cut hk h64 hok hN
  go_enter Tryz.func254, Tryz.ntmps254
  go_upto_region 1 with fail
  refine wp_region_held_drew (S := fun w' => w'.cell? ⟨bf, 0, none⟩ = some (.pointer (some ⟨pf, 0, none⟩)) ∧ w'.cell? ⟨bn, 0, none⟩ = some (.string ⟨k.toArray⟩) ∧ w'.cell? ⟨ba, 0, none⟩ = some (.int .i64 at_) ∧ w'.cell? ⟨pf, 1, none⟩ = some (.iface 45 (.pointer (some ⟨pd, 0, none⟩)))) (by kernel_rfl) (⟨c0, c1, c2, cv⟩) (fun hHeld => ?_)
  refine wpAnyH_take (i := 0) (v := ?_) rfl (by kernel_rfl) (by kernel_rfl) (by kernel_rfl) (fun _ _ _ h => h) (Or.inl ⟨by rfl, ?_⟩) hHeld ?_
  rotate_left
  · intro w hSw; (try dsimp only at hSw); go_simp
    all_goals (with_reducible rfl)
  (try simp only [Act.put, List.getElem_toArray, List.getElem_cons_succ, List.getElem_cons_zero, List.setIfInBounds_toArray, List.set_cons_zero, List.set_cons_succ])
  refine wpAnyH_take (i := 1) (v := ?_) rfl (by kernel_rfl) (by kernel_rfl) (by kernel_rfl) (fun _ _ _ h => h) (Or.inl ⟨by rfl, ?_⟩) hHeld ?_
  rotate_left
  · intro w hSw; (try dsimp only at hSw); go_simp
    all_goals (with_reducible rfl)
  (try simp only [Act.put, List.getElem_toArray, List.getElem_cons_succ, List.getElem_cons_zero, List.setIfInBounds_toArray, List.set_cons_zero, List.set_cons_succ])
  refine wpAnyH_take (i := 2) (v := ?_) rfl (by kernel_rfl) (by kernel_rfl) (by kernel_rfl) (fun _ _ _ h => h) (Or.inl ⟨by rfl, ?_⟩) hHeld ?_
  rotate_left
  · intro w hSw; (try dsimp only at hSw); go_simp
    all_goals (with_reducible rfl)
  (try simp only [Act.put, List.getElem_toArray, List.getElem_cons_succ, List.getElem_cons_zero, List.setIfInBounds_toArray, List.set_cons_zero, List.set_cons_succ])
  refine wpAnyH_take (i := 3) (v := ?_) rfl (by kernel_rfl) (by kernel_rfl) (by kernel_rfl) (fun _ _ _ h => h) (Or.inl ⟨by rfl, ?_⟩) hHeld ?_
  rotate_left
  · intro w hSw; (try dsimp only at hSw); go_simp
    all_goals (with_reducible rfl)
  (try simp only [Act.put, List.getElem_toArray, List.getElem_cons_succ, List.getElem_cons_zero, List.setIfInBounds_toArray, List.set_cons_zero, List.set_cons_succ])
  refine wpAnyH_take (i := 4) (v := ?_) rfl (by kernel_rfl) (by kernel_rfl) (by kernel_rfl) (fun _ _ _ h => h) (Or.inl ⟨by rfl, ?_⟩) hHeld ?_
  rotate_left
  · intro w hSw; (try dsimp only at hSw); go_simp
    all_goals (with_reducible rfl)
  (try simp only [Act.put, List.getElem_toArray, List.getElem_cons_succ, List.getElem_cons_zero, List.setIfInBounds_toArray, List.set_cons_zero, List.set_cons_succ])
  refine wpAnyH_take (i := 5) (v := ?_) rfl (by kernel_rfl) (by kernel_rfl) (by kernel_rfl) (fun _ _ _ h => h) (Or.inl ⟨by rfl, ?_⟩) hHeld ?_
  rotate_left
  · intro w hSw; (try dsimp only at hSw); go_simp
    all_goals (with_reducible rfl)
  (try simp only [Act.put, List.getElem_toArray, List.getElem_cons_succ, List.getElem_cons_zero, List.setIfInBounds_toArray, List.set_cons_zero, List.set_cons_succ])
  refine wpAnyH_ready (rs := [6]) (by kernel_rfl) (by simp) ?_
  refine AllReadyH.cons rfl (fun K hK => ?_) AllReadyH.nil
  go_simp
  go_wp2_with (go_at_call 221; refine hcr.mono ?_; rintro _ w2 ⟨rfl, F', G', ho, hmv⟩)
  have d0 := hmv.1.cell c0 hF.1
  have d1 := hmv.1.cell c1 hF.2.1
  have d2 := hmv.1.cell c2 hF.2.2.1
  have dv := hmv.1.cell cv hF.2.2.2
  
  refine hK.out _ _ (⟨d0, d1, d2, dv⟩) (fun hHeld => ?_)
  clear hK K
  (try simp only [Act.put, List.getElem_toArray, List.getElem_cons_succ, List.getElem_cons_zero, List.setIfInBounds_toArray, List.set_cons_zero, List.set_cons_succ])
  refine wpAnyH_take (i := 7) (v := ?_) rfl (by kernel_rfl) (by kernel_rfl) (by kernel_rfl) (fun _ _ _ h => h) (Or.inl ⟨by rfl, ?_⟩) hHeld ?_
  rotate_left
  · intro w hSw; (try dsimp only at hSw); go_simp
    all_goals (with_reducible rfl)
  (try simp only [Act.put, List.getElem_toArray, List.getElem_cons_succ, List.getElem_cons_zero, List.setIfInBounds_toArray, List.set_cons_zero, List.set_cons_succ])
  refine wpAnyH_done (by kernel_rfl) ?_ _
  clear hHeld
  have HM := Lib.hid (And.intro ho hmv)
  clear ho hmv hcr
  go_wp2
  go_ret
  exact ⟨rfl, F', G', HM.out.1, ((Chg.refl F1 w).drew).trans HM.out.2.1 (fun _ h _ => h), HM.out.2.2⟩
set_option maxRecDepth 100000 in
set_option maxHeartbeats 4000000 in
theorem FaultAt.cut {F G : Nat → Prop} {w : World} {pf pd : Nat} {f : FSt} (h : FaultAt F G w pf pd f) {k : List UInt8} (hk : k.length ≤ maxLen) {at_ : Int} (h64 : -9223372036854775808 ≤ at_ ∧ at_ < 9223372036854775808) {N : Nat} (hok : f.disk.Ok N) (hN : N + 1 < maxList) (hdn : f.done.length < 1048576) (hfl : f.full.length ≤ 4194304) :
    Calls Tryz.prog 247 #[.pointer (some ⟨pf, 0, none⟩), .string ⟨k.toArray⟩, .int .i64 at_] w fun e w' => e = .returned (.int .i64 (f.ask ⟨3, k, [], at_, 0, 0⟩ (f.disk.cut k at_)).2) ∧ ∃ F' G', FaultAt F' G' w' pf pd (f.ask ⟨3, k, [], at_, 0, 0⟩ (f.disk.cut k at_)).1 ∧ Moved F G F' G' w w' := by
  obtain ⟨F1, G1, vf, vd, e, h1, h2, h3⟩ := h
  obtain ⟨w3, hw3⟩ : ∃ w3, (((w.alloc (.cells #[.pointer (some ⟨pf, 0, none⟩)] 65)).alloc (.cells #[.string ⟨k.toArray⟩] 9)).alloc (.cells #[.int .i64 at_] 2)) = w3 := ⟨_, rfl⟩
  have hb3 : Below w.heap.size w w3 := by rw [← hw3]; exact (((below_alloc w _).alloc (by simp) _).alloc (by simp; omega) _)
  have hz3 : w3.heap.size = w.heap.size + 1 + 1 + 1 := by rw [← hw3]; simp
  have e0 := Boxed.cell (show Boxed w3 (w.heap.size) 65 (.pointer (some ⟨pf, 0, none⟩)) from by rw [← hw3]; have := (((Boxed.new w 65 (.pointer (some ⟨pf, 0, none⟩))).alloc (.cells #[.string ⟨k.toArray⟩] 9)).alloc (.cells #[.int .i64 at_] 2)); exact this)
  have e1 := Boxed.cell (show Boxed w3 (w.heap.size + 1) 9 (.string ⟨k.toArray⟩) from by rw [← hw3]; have := ((Boxed.new (w.alloc (.cells #[.pointer (some ⟨pf, 0, none⟩)] 65)) 9 (.string ⟨k.toArray⟩)).alloc (.cells #[.int .i64 at_] 2)); rwa [World.size_alloc] at this)
  have e2 := Boxed.cell (show Boxed w3 (w.heap.size + 1 + 1) 2 (.int .i64 at_) from by rw [← hw3]; have := (Boxed.new ((w.alloc (.cells #[.pointer (some ⟨pf, 0, none⟩)] 65)).alloc (.cells #[.string ⟨k.toArray⟩] 9)) 2 (.int .i64 at_)); rwa [World.size_alloc, World.size_alloc] at this)
  have h13 := h1.kept (O := fun _ => False) (Chg.of_below hb3) (fun _ _ h => h) (fun h => h) (fun _ _ h => h) (fun _ _ h => h)
  have hpl := heap_lt h1.cells
  have hlt := h1.disk.lt
  have ha : Calls Tryz.prog 106 #[.pointer (some ⟨pf, 0, none⟩), .agg #[.int .i64 3, .string ⟨k.toArray⟩, .string ⟨#[]⟩, .int .i64 at_, .int .i64 0, .int .i64 0], .func (.func 254) #[] #[.pointer (some ⟨w.heap.size, 0, none⟩), .pointer (some ⟨w.heap.size + 1, 0, none⟩), .pointer (some ⟨w.heap.size + 1 + 1, 0, none⟩)]] w3 fun e w' => e = .returned (.int .i64 (f.ask ⟨3, k, [], at_, 0, 0⟩ (f.disk.cut k at_)).2) ∧ ∃ F' G', FaultAt F' G' w' pf pd (f.ask ⟨3, k, [], at_, 0, 0⟩ (f.disk.cut k at_)).1 ∧ Moved (fun b => F1 b ∨ b = pf ∨ vf.ownBlock = some b ∨ vd.ownBlock = some b) G1 F' G' w3 w' :=
    ask_any h13 (x := ⟨3, k, [], at_, 0, 0⟩) rfl hdn hfl 254 _ enters_Cut1 (f.disk.cut k at_) (fun W hW hx _ => dev1_Cut (h13.disk.kept hW (fun b hb e => (h13.out b (.inl hb)).1 e) (fun b hb e => (h13.out b (.inr hb)).1 e)) hx (by rfl) hk h64 hok hN (hW.cell e0 (by show ¬ w.heap.size = pf; omega)) (hW.cell e1 (by show ¬ w.heap.size + 1 = pf; omega)) (hW.cell e2 (by show ¬ w.heap.size + 1 + 1 = pf; omega)) ⟨fun hb => by have := hlt.1 _ hb; omega, fun hb => by have := hlt.1 _ hb; omega, fun hb => by have := hlt.1 _ hb; omega, fun hb => (h1.out _ (.inl hb)).1 rfl⟩)
  have HZ := Lib.hid hz3
  have HW := Lib.hid hw3
  clear hz3 hw3
  go_enter Tryz.func247, Tryz.ntmps247
  go_wp2_with (first | rw [HW.out] | (go_at_call 106; refine ha.mono ?_; rintro _ w4 ⟨rfl, hq⟩))
  go_ret
  obtain ⟨F', G', k1, k2⟩ := FaultAt.ofP h2 h3 hq
  exact ⟨rfl, F', G', k1, k2.after hb3⟩
theorem enters_SyncNames1 : enters 107 := fun args w => by go_simp
set_option maxRecDepth 100000 in
set_option maxHeartbeats 4000000 in
theorem dev1_SyncNames {F1 G1 : Nat → Prop} {w : World} {pd pf bf : Nat} {s : DSt} {cs : Array Value} {e : TypeId} (h : One F1 G1 w pd s) (hx : w.heap[pf]? = some (.cells cs e (0, 0))) (hc1 : cs[1]? = some (devV pd))  {N : Nat} (hok : s.Ok N) (hN : N + 1 < maxList)
    (c0 : w.cell? ⟨bf, 0, none⟩ = some (.pointer (some ⟨pf, 0, none⟩))) (hF : ¬ F1 bf ∧ ¬ F1 pf) :
    Calls Tryz.prog 107 #[.pointer (some ⟨bf, 0, none⟩)] w fun e w' => e = .returned (.int .i64 ((s.syncNames).2 : Int)) ∧ ∃ F' G', One F' G' w' pd (s.syncNames).1 ∧ Moved F1 G1 F' G' w w' := by
  have cv := cell_of_heap hx hc1
  unfold devV at cv
  have hd := h
  have hcr := hd.syncNames hok hN
  go_enter Tryz.func107, Tryz.ntmps107
  go_wp2_with (go_at_call 20; refine hcr.mono ?_; rintro _ w2 ⟨rfl, hq⟩)
  go_ret
  exact ⟨rfl, hq⟩
set_option maxRecDepth 100000 in
set_option maxHeartbeats 4000000 in
theorem FaultAt.syncNames {F G : Nat → Prop} {w : World} {pf pd : Nat} {f : FSt} (h : FaultAt F G w pf pd f)  {N : Nat} (hok : f.disk.Ok N) (hN : N + 1 < maxList) (hdn : f.done.length < 1048576) (hfl : f.full.length ≤ 4194304) :
    Calls Tryz.prog 66 #[.pointer (some ⟨pf, 0, none⟩)] w fun e w' => e = .returned (.int .i64 (f.ask ⟨5, [], [], 0, 0, 0⟩ (f.disk.syncNames)).2) ∧ ∃ F' G', FaultAt F' G' w' pf pd (f.ask ⟨5, [], [], 0, 0, 0⟩ (f.disk.syncNames)).1 ∧ Moved F G F' G' w w' := by
  obtain ⟨F1, G1, vf, vd, e, h1, h2, h3⟩ := h
  obtain ⟨w3, hw3⟩ : ∃ w3, (w.alloc (.cells #[.pointer (some ⟨pf, 0, none⟩)] 65)) = w3 := ⟨_, rfl⟩
  have hb3 : Below w.heap.size w w3 := by rw [← hw3]; exact (below_alloc w _)
  have hz3 : w3.heap.size = w.heap.size + 1 := by rw [← hw3]; simp
  have e0 := Boxed.cell (show Boxed w3 (w.heap.size) 65 (.pointer (some ⟨pf, 0, none⟩)) from by rw [← hw3]; have := (Boxed.new w 65 (.pointer (some ⟨pf, 0, none⟩))); exact this)
  have h13 := h1.kept (O := fun _ => False) (Chg.of_below hb3) (fun _ _ h => h) (fun h => h) (fun _ _ h => h) (fun _ _ h => h)
  have hpl := heap_lt h1.cells
  have hlt := h1.disk.lt
  have ha : Calls Tryz.prog 106 #[.pointer (some ⟨pf, 0, none⟩), .agg #[.int .i64 5, .string ⟨#[]⟩, .string ⟨#[]⟩, .int .i64 0, .int .i64 0, .int .i64 0], .func (.func 107) #[] #[.pointer (some ⟨w.heap.size, 0, none⟩)]] w3 fun e w' => e = .returned (.int .i64 (f.ask ⟨5, [], [], 0, 0, 0⟩ (f.disk.syncNames)).2) ∧ ∃ F' G', FaultAt F' G' w' pf pd (f.ask ⟨5, [], [], 0, 0, 0⟩ (f.disk.syncNames)).1 ∧ Moved (fun b => F1 b ∨ b = pf ∨ vf.ownBlock = some b ∨ vd.ownBlock = some b) G1 F' G' w3 w' :=
    ask_any h13 (x := ⟨5, [], [], 0, 0, 0⟩) rfl hdn hfl 107 _ enters_SyncNames1 (f.disk.syncNames) (fun W hW hx _ => dev1_SyncNames (h13.disk.kept hW (fun b hb e => (h13.out b (.inl hb)).1 e) (fun b hb e => (h13.out b (.inr hb)).1 e)) hx (by rfl)  hok hN (hW.cell e0 (by show ¬ w.heap.size = pf; omega)) ⟨fun hb => by have := hlt.1 _ hb; omega, fun hb => (h1.out _ (.inl hb)).1 rfl⟩)
  have HZ := Lib.hid hz3
  have HW := Lib.hid hw3
  clear hz3 hw3
  go_enter Tryz.func66, Tryz.ntmps66
  go_wp2_with (first | rw [HW.out] | (go_at_call 106; refine ha.mono ?_; rintro _ w4 ⟨rfl, hq⟩))
  go_ret
  obtain ⟨F', G', k1, k2⟩ := FaultAt.ofP h2 h3 hq
  exact ⟨rfl, F', G', k1, k2.after hb3⟩
end Go.Proofs.YtlmdpcaikhdenaaGreat
/- The device over the disk: New, Full, Stop, Stopped, looks, Read. -/
namespace Go.Proofs.YtlmdpcaikhdenaaGreat
open Go.RowKit Go.Maps

theorem Tryz.info2' : (Tryz.prog.info? 2).map (fun i => (i.zero, i.size, i.bytes)) = some (some (.int .i64 0), 1, 8) := by kernel_rfl
section
variable {F1 G1 : Nat → Prop} {w : World} {pf pd : Nat} {f : FSt} {vf vd : Value} {e : TypeId}
theorem looks_any (h : FaultP F1 G1 w pf pd f vf vd e) : Calls Tryz.prog 255 #[.pointer (some ⟨pf, 0, none⟩)] w fun e w' => e = .returned (.int .i64 (if f.off then 6 else 0)) ∧ w = w' := by
  have c0 := cell_of_heap h.cells (i := 0) (v := .pointer (some ⟨pd, 0, none⟩)) (by rfl)
  have c5 := cell_of_heap h.cells (i := 5) (v := .bool f.off) (by rfl)
  generalize f.off = ob at c5
  cases ob <;>
  · go_enter Tryz.func255, Tryz.ntmps255
    go_wp2
    go_ret
    exact ⟨rfl, rfl⟩
/-- the length of the list of a plan is 0 or 1 -/
def planIn (w : World) (a : Option Addr) (l : List Int) : Prop := l.length ≤ 1 ∧ (∀ t ∈ l, 0 ≤ t) ∧ RowAt w a (l.map (Value.int .i64))
end

end Go.Proofs.YtlmdpcaikhdenaaGreat
/- FaultClear: the law's small functions. -/
namespace Go.Proofs.YtlmdpcaikhdenaaGreat
open Go.RowKit Go.Maps

def SomeBool (w : World) (e : Ending) (w' : World) : Prop := ∃ b : Bool, e = .returned (.bool b) ∧ w = w'

end Go.Proofs.YtlmdpcaikhdenaaGreat
/- FaultClear: asked, of a disk and of a device over it. (printed by gen/asked.py) -/
namespace Go.Proofs.YtlmdpcaikhdenaaGreat
open Go.RowKit Go.Maps

/-- a step of the law's -/
structure AOp where
  kind : Int
  on : Int
  n : Int
  name : List UInt8
  dst : List UInt8
  at_ : Int
  data : List UInt8
def encO (x : AOp) (da : Option Addr) (dc : Nat) : Array Value := #[.int .i64 x.kind, .int .i64 x.on, .int .i64 x.n, .string ⟨x.name.toArray⟩, .string ⟨x.dst.toArray⟩, .int .i64 x.at_, .slice da x.data.length dc]
structure AOp.Ok (x : AOp) : Prop where
  name : x.name.length ≤ maxLen
  dst : x.dst.length ≤ maxLen
  at64 : -9223372036854775808 ≤ x.at_ ∧ x.at_ < 9223372036854775808
  data : x.data.length ≤ 1048576
noncomputable def stepD (x : AOp) (s : DSt) : DSt × Nat :=
  if x.kind = 1 then s.create x.name
  else if x.kind = 2 then s.put x.name x.at_ x.data
  else if x.kind = 3 then s.cut x.name x.at_
  else if x.kind = 4 then s.sync x.name
  else if x.kind = 5 then s.syncNames
  else if x.kind = 6 then s.rename x.name x.dst
  else if x.kind = 7 then s.remove x.name
  else (s, 0)
noncomputable def stepF (x : AOp) (f : FSt) : FSt × Int :=
  if x.kind = 1 then f.ask ⟨1, x.name, [], 0, 0, 0⟩ (f.disk.create x.name)
  else if x.kind = 2 then f.ask ⟨2, x.name, [], x.at_, (x.data.length : Int), 0⟩ (f.disk.put x.name x.at_ x.data)
  else if x.kind = 3 then f.ask ⟨3, x.name, [], x.at_, 0, 0⟩ (f.disk.cut x.name x.at_)
  else if x.kind = 4 then f.ask ⟨4, x.name, [], 0, 0, 0⟩ (f.disk.sync x.name)
  else if x.kind = 5 then f.ask ⟨5, [], [], 0, 0, 0⟩ f.disk.syncNames
  else if x.kind = 6 then f.ask ⟨6, x.name, x.dst, 0, 0, 0⟩ (f.disk.rename x.name x.dst)
  else if x.kind = 7 then f.ask ⟨7, x.name, [], 0, 0, 0⟩ (f.disk.remove x.name)
  else (f, 0)
theorem Moved.refl {F G : Nat → Prop} {w : World} (hF : ∀ b, F b → b < w.heap.size) (hG : ∀ b, G b → b < w.heap.size) : Moved F G F G w w := ⟨Chg.refl _ _, fun b hb => ⟨.inl hb, hF b hb⟩, fun b hb => ⟨.inl hb, hG b hb⟩⟩

end Go.Proofs.YtlmdpcaikhdenaaGreat
/- The device over the disk: what it answers when it is looked at. -/
namespace Go.Proofs.YtlmdpcaikhdenaaGreat
open Go.RowKit Go.Maps

/-- the device as a value -/
def devF (pf : Nat) : Value := .iface 65 (.pointer (some ⟨pf, 0, none⟩))
def FSt.size (f : FSt) (k : List UInt8) : Nat × Nat := if f.off then (0, 6) else f.disk.size k
def FSt.read (f : FSt) (k : List UInt8) (at_ n : Int) : List UInt8 × Nat := if f.off then ([], 6) else f.disk.read k at_ n
section
variable {F G : Nat → Prop} {w : World} {pf pd : Nat} {f : FSt} {N : Nat}
set_option maxHeartbeats 2000000 in
theorem FaultAt.size (h : FaultAt F G w pf pd f) {k : List UInt8} (hk : k.length ≤ maxLen) (hok : f.disk.Ok N) (hN : N < maxList) :
    Calls Tryz.prog 250 #[.pointer (some ⟨pf, 0, none⟩), .string ⟨k.toArray⟩] w fun e w' => e = .returned (.tuple #[.int .i64 ((f.size k).1 : Int), .int .i64 ((f.size k).2 : Int)]) ∧ Below w.heap.size w w' := by
  obtain ⟨F1, G1, vf, vd, e, h1, h2, h3⟩ := h
  have hl := looks_any h1
  have hS := (h1.disk.has).size hk hok hN
  have c1 := cell_of_heap h1.cells (i := 1) (v := devV pd) (by rfl)
  unfold devV at c1
  cases ho : f.off with
  | true =>
    have he : f.size k = (0, 6) := by unfold FSt.size; rw [ho]; rfl
    rw [ho, if_pos rfl] at hl
    rw [he]
    clear hS he ho h1
    go_enter Tryz.func250, Tryz.ntmps250
    go_wp2_with (go_at_call 255; refine hl.mono ?_; rintro _ w2 ⟨rfl, rfl⟩)
    go_ret2
    exact ⟨rfl, Below.refl _ _⟩
  | false =>
    have he : f.size k = f.disk.size k := by unfold FSt.size; rw [ho]; rfl
    rw [ho, if_neg (by decide)] at hl
    rw [he]
    clear he ho h1
    go_enter Tryz.func250, Tryz.ntmps250
    go_wp2_with (first
      | (go_at_call 255; refine hl.mono ?_; rintro _ w2 ⟨rfl, rfl⟩)
      | (go_at_call 224; refine hS.mono ?_; rintro _ w3 ⟨rfl, hb⟩))
    go_ret2
    exact ⟨rfl, hb⟩
set_option maxHeartbeats 2000000 in
theorem FaultAt.read (h : FaultAt F G w pf pd f) {k : List UInt8} (hk : k.length ≤ maxLen) {at_ n : Int} (h64 : -9223372036854775808 ≤ at_ ∧ at_ < 9223372036854775808) (hok : f.disk.Ok N) (hN : N < maxList) :
    Calls Tryz.prog 248 #[.pointer (some ⟨pf, 0, none⟩), .string ⟨k.toArray⟩, .int .i64 at_, .int .i64 n] w fun e w' => ∃ U, e = .returned (.tuple #[U, .int .i64 ((f.read k at_ n).2 : Int)]) ∧ BytesIn w' (fun b => w.heap.size ≤ b) U (f.read k at_ n).1 ∧ Below w.heap.size w w' := by
  obtain ⟨F1, G1, vf, vd, e, h1, h2, h3⟩ := h
  have hl := looks_any h1
  have hS := (h1.disk.has).read (at_ := at_) (n := n) hk h64 hok hN
  have c1 := cell_of_heap h1.cells (i := 1) (v := devV pd) (by rfl)
  unfold devV at c1
  cases ho : f.off with
  | true =>
    have he : f.read k at_ n = ([], 6) := by unfold FSt.read; rw [ho]; rfl
    rw [ho, if_pos rfl] at hl
    rw [he]
    clear hS he ho h1
    go_enter Tryz.func248, Tryz.ntmps248
    go_wp2_with (go_at_call 255; refine hl.mono ?_; rintro _ w2 ⟨rfl, rfl⟩)
    go_ret2
    exact ⟨_, rfl, BytesIn.nil _ _, Below.refl _ _⟩
  | false =>
    have he : f.read k at_ n = f.disk.read k at_ n := by unfold FSt.read; rw [ho]; rfl
    rw [ho, if_neg (by decide)] at hl
    rw [he]
    clear he ho h1
    go_enter Tryz.func248, Tryz.ntmps248
    go_wp2_with (first
      | (go_at_call 255; refine hl.mono ?_; rintro _ w2 ⟨rfl, rfl⟩)
      | (go_at_call 222; refine hS.mono ?_; rintro _ w3 ⟨U, rfl, hU, hb⟩))
    go_ret2
    exact ⟨_, rfl, hU.kept (Chg.refl (fun _ => False) _) (fun _ _ h => h) (fun b hb => hb.1), hb⟩
end

end Go.Proofs.YtlmdpcaikhdenaaGreat
/- Segment: Begin, Remove, Sync over the disk and the device. (printed by gen/stepm.py) -/
namespace Go.Proofs.YtlmdpcaikhdenaaGreat
open Go.RowKit Go.Maps

section
variable {F G : Nat → Prop} {w : World} {p pf pd : Nat} {s : DSt} {f : FSt} {N : Nat}
set_option maxHeartbeats 2000000 in
theorem ssync_disk_step (h : One F G w p s) {x : Int} (h0 : 0 ≤ x) (h1 : x ≤ 4611686018427387904) (hok : s.Ok N) (hN : N + 1 < maxList) :
    Calls Tryz.prog 45 #[devD p, .int .i64 x, .func (.method "Sync") #[devD p] #[]] w fun e w' => e = .returned (.int .i64 ((s.sync (segName x)).2 : Int)) ∧ ∃ F' G', One F' G' w' p (s.sync (segName x)).1 ∧ Moved F G F' G' w w' := by
  have hn := sname_any h0 (by omega) w
  have hc := fun (W : World) (hb : Below w.heap.size w W) => (h.below hb).sync (k := segName x) (by rw [segName_len]; decide) hok hN
  have HC := Lib.hid hc
  have g1 : decide (4611686018427387904 < x) = false := by simp; omega
  clear hc h0 h1 h hok hN
  unfold devD
  go_enter Tryz.func45, Tryz.ntmps45
  go_wp2_with (first | (go_at_call 84; refine hn.mono ?_; rintro _ w1 ⟨rfl, hb1⟩) | (go_at_call 225; refine (HC.out _ hb1).mono ?_; rintro _ w2 ⟨rfl, hq⟩))
  go_ret
  obtain ⟨F', G', k1, k2⟩ := hq
  exact ⟨rfl, F', G', k1, k2.after hb1⟩
set_option maxHeartbeats 2000000 in
theorem ssync_disk_any (h : One F G w p s) {x : Int} (h0 : 0 ≤ x) (h1 : x ≤ 4611686018427387904) (hok : s.Ok N) (hN : N + 1 < maxList) :
    Calls Tryz.prog 19 #[devD p, .int .i64 x] w fun e w' => e = .returned (.int .i64 ((s.sync (segName x)).2 : Int)) ∧ ∃ F' G', One F' G' w' p (s.sync (segName x)).1 ∧ Moved F G F' G' w w' := by
  have hc := ssync_disk_step h h0 h1 hok hN
  clear h0 h1 hok hN h
  unfold devD at *
  go_enter Tryz.func19, Tryz.ntmps19
  go_wp2_with (go_at_call 45; refine hc.mono ?_; rintro _ w1 ⟨rfl, hq⟩)
  go_ret
  exact ⟨rfl, hq⟩
end

end Go.Proofs.YtlmdpcaikhdenaaGreat
/- Segment: Encode. -/
namespace Go.Proofs.YtlmdpcaikhdenaaGreat
open Go.RowKit Go.Maps

/-- what Encode answers -/
def encV (f : Int) (L : List (List UInt8)) : List UInt8 := if fitsE f 0 L = 0 then encL f.toNat L else []
theorem encV_len (f : Int) (L : List (List UInt8)) : (encV f L).length ≤ 16859136 := by
  unfold encV
  split
  · rename_i h
    obtain ⟨_, _, _, f3, f4⟩ := fits_ok h
    have := encL_len_le f.toNat L f4
    have h2 : L.length * 4115 ≤ 4096 * 4115 := Nat.mul_le_mul_right _ (by omega)
    omega
  · simp
set_option maxRecDepth 100000 in
set_option maxHeartbeats 4000000 in
theorem encode_any {w : World} {f : Int} {a : Option Addr} {c : Nat} {L : List (List UInt8)} (h : EntsAt w a L) (hl : L.length ≤ 1000000000) :
    Calls Tryz.prog 9 #[.int .i64 f, .slice a L.length c] w fun e w' => ∃ U, e = .returned (.tuple #[U, .int .i64 (fitsE f 0 L : Int)]) ∧ BytesIn w' (fun b => w.heap.size ≤ b) U (encV f L) ∧ Below w.heap.size w w' := by
  have hF := fits_any (w := w) (f := f) (many := 0) (c := c) (by omega) h hl
  by_cases hf : fitsE f 0 L = 0
  · obtain ⟨f0, f1, f2, f3, f4⟩ := fits_ok hf
    have he : encV f L = encL f.toNat L := by unfold encV; rw [if_pos hf]
    obtain ⟨n, rfl⟩ := Int.eq_ofNat_of_zero_le f0
    rw [hf] at hF
    rw [he, hf]
    have hFr : Hid (∀ W, Below w.heap.size w W → Calls Tryz.prog 38 #[.int .i64 (n : Int), .slice a L.length c] W fun e w' => ∃ U, e = .returned U ∧ BytesIn w' (fun b => W.heap.size ≤ b) U (encL n L) ∧ Below W.heap.size W w') := Lib.hid (fun W hW => frames_any (h.below hW) (by omega) f4 (by
      by_cases h0 : 0 < L.length
      · have := f2 h0; omega
      · omega))
    have hz : ((0 : Nat) : Int) = 0 := rfl
    clear hf he f0 f1 f2 f3 f4 h
    go_enter Tryz.func9, Tryz.ntmps9
    go_wp2_with (first
      | (go_at_call 37; refine hF.mono ?_; rintro _ w2 ⟨rfl, hb2⟩; have hFr2 := hFr.out w2 hb2)
      | (go_at_call 38; refine hFr2.mono ?_; rintro _ w3 ⟨U, rfl, hU, hb3⟩))
    go_ret2
    exact ⟨_, rfl, hU.kept (Chg.refl (fun _ => False) _) (fun _ _ h => h) (fun b hb => by have := hb2.size; omega), hb2.trans (hb3.mono hb2.size)⟩
  · have he : encV f L = [] := by unfold encV; rw [if_neg hf]
    rw [he]
    obtain ⟨fe, hfe⟩ : ∃ fe, fitsE f 0 L = fe := ⟨_, rfl⟩
    rw [hfe] at hF hf ⊢
    have d2 : ((fe : Int) != 0) = true := by simpa using hf
    have d3 : ((fe : Int) == 0) = false := by simpa using hf
    clear hfe hf he h
    go_enter Tryz.func9, Tryz.ntmps9
    go_wp2_with (go_at_call 37; refine hF.mono ?_; rintro _ w2 ⟨rfl, hb2⟩)
    go_ret2
    exact ⟨_, rfl, BytesIn.nil _ _, hb2⟩

end Go.Proofs.YtlmdpcaikhdenaaGreat
