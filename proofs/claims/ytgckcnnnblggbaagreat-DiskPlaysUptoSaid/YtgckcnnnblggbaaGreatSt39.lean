/- Texts of this claim, one behind the other: RdX. -/
import Derived.Test.YtgckcnnnblggbaaGreatSt38
import Derived.Deep.RegionHeld3
set_option linter.unusedSimpArgs false
set_option linter.unusedVariables false
/- asks: the steps that are one call on either side. (printed by gen/asks.py) -/
namespace Go.Proofs.YtgckcnnnblggbaaGreat
open Go.RowKit Go.Maps

section
variable {F G : Nat → Prop} {w : World} {v1 v2 : Option Addr} {o : Option DSt} {N : Nat}
set_option maxRecDepth 100000 in
set_option maxHeartbeats 4000000 in
theorem asks_create (h : PairO F G w v1 o v2 o) {k t : List UInt8} {who at_ n sn st : Int} {da ka : Option Addr} {dl dc kl kc : Nat} (hk : k.length ≤ maxLen) (hok : ∀ s, o = some s → s.Ok N) (hN : N + 1 < maxList) (hF : ∀ b, F b → b < w.heap.size) (hG : ∀ b, G b → b < w.heap.size) :
    Calls Tryz.prog 9 #[.pointer v1, .pointer v2, .agg #[.int .i64 1, .int .i64 who, .string ⟨k.toArray⟩, .string ⟨t.toArray⟩, .int .i64 at_, .int .i64 n, .slice da dl dc, .int .i64 sn, .slice ka kl kc, .int .i64 st]] w fun e w' => e = .returned (.bool true) ∧ ∃ F' G', PairO F' G' w' v1 (actO (fun s => s.create k) o).1 v2 (actO (fun s => s.create k) o).1 ∧ Moves F G F' G' w w' := by
  obtain ⟨w1, hw1⟩ : ∃ w1, w.alloc (.cells #[.int .i64 1, .int .i64 who, .string ⟨k.toArray⟩, .string ⟨t.toArray⟩, .int .i64 at_, .int .i64 n, .slice da dl dc, .int .i64 sn, .slice ka kl kc, .int .i64 st] 41) = w1 := ⟨_, rfl⟩
  have hb1 : Below w.heap.size w w1 := by rw [← hw1]; exact below_alloc _ _
  have hbx : w1.heap[w.heap.size]? = some (.cells #[.int .i64 1, .int .i64 who, .string ⟨k.toArray⟩, .string ⟨t.toArray⟩, .int .i64 at_, .int .i64 n, .slice da dl dc, .int .i64 sn, .slice ka kl kc, .int .i64 st] 41 (0, 0)) := by rw [← hw1]; exact World.alloc_heap_new w _
  have hz1 : w1.heap.size = w.heap.size + 1 := by rw [← hw1]; simp
  have c0 := cell_of_heap hbx (i := 0) (v := .int .i64 1) (by rfl)
  have c2 := cell_of_heap hbx (i := 2) (v := .string ⟨k.toArray⟩) (by rfl)
  have hP0 := (h.below hb1).kept (O := fun _ => False) ((Chg.refl (fun _ => False) w1).drew) (fun _ _ h => h) (fun _ _ h => h)
  have hcc := hP0.create1 hk hok hN
  have M0 : Moves F G F G w w1.drew := ⟨(Chg.of_below hb1).drew, fun _ h => .inl h, fun _ h => .inl h⟩
  have hnF : ¬ F w.heap.size := fun h => by have := hF _ h; omega
  have HP := Lib.hid (And.intro h hP0)
  clear h hP0 hbx
  go_enter Tryz.func9, Tryz.ntmps9
  go_upto_region 3 with (first | rw [hw1])
  refine wp_region_held_drew (S := fun w' => w'.cell? ⟨w.heap.size, 2, none⟩ = some (.string ⟨k.toArray⟩)) (by kernel_rfl) (c2) (fun hHeld => ?_)
  refine wpAnyH_take (i := 0) (v := ?_) rfl (by kernel_rfl) (by kernel_rfl) (by kernel_rfl) (fun _ _ _ h => h) (Or.inl ⟨by rfl, ?_⟩) hHeld ?_
  rotate_left
  · intro w hSw; (try dsimp only at hSw); go_simp
    all_goals (with_reducible rfl)
  (try simp only [Act.put, List.setIfInBounds_toArray, List.set_cons_zero, List.set_cons_succ])
  refine wpAnyH_take (i := 1) (v := ?_) rfl (by kernel_rfl) (by kernel_rfl) (by kernel_rfl) (fun _ _ _ h => h) (Or.inl ⟨by rfl, ?_⟩) hHeld ?_
  rotate_left
  · intro w hSw; (try dsimp only at hSw); go_simp
    all_goals (with_reducible rfl)
  (try simp only [Act.put, List.setIfInBounds_toArray, List.set_cons_zero, List.set_cons_succ])
  refine wpAnyH_take (i := 2) (v := ?_) rfl (by kernel_rfl) (by kernel_rfl) (by kernel_rfl) (fun _ _ _ h => h) (Or.inl ⟨by rfl, ?_⟩) hHeld ?_
  rotate_left
  · intro w hSw; (try dsimp only at hSw); go_simp
    all_goals (with_reducible rfl)
  (try simp only [Act.put, List.setIfInBounds_toArray, List.set_cons_zero, List.set_cons_succ])
  refine wpAnyH_take (i := 5) (v := ?_) rfl (by kernel_rfl) (by kernel_rfl) (by kernel_rfl) (fun _ _ _ h => h) (Or.inl ⟨by rfl, ?_⟩) hHeld ?_
  rotate_left
  · intro w hSw; (try dsimp only at hSw); go_simp
    all_goals (with_reducible rfl)
  (try simp only [Act.put, List.setIfInBounds_toArray, List.set_cons_zero, List.set_cons_succ])
  refine wpAnyH_take (i := 6) (v := ?_) rfl (by kernel_rfl) (by kernel_rfl) (by kernel_rfl) (fun _ _ _ h => h) (Or.inl ⟨by rfl, ?_⟩) hHeld ?_
  rotate_left
  · intro w hSw; (try dsimp only at hSw); go_simp
    all_goals (with_reducible rfl)
  (try simp only [Act.put, List.setIfInBounds_toArray, List.set_cons_zero, List.set_cons_succ])
  refine wpAnyH_take (i := 7) (v := ?_) rfl (by kernel_rfl) (by kernel_rfl) (by kernel_rfl) (fun _ _ _ h => h) (Or.inl ⟨by rfl, ?_⟩) hHeld ?_
  rotate_left
  · intro w hSw; (try dsimp only at hSw); go_simp
    all_goals (with_reducible rfl)
  (try simp only [Act.put, List.setIfInBounds_toArray, List.set_cons_zero, List.set_cons_succ])
  refine wpAnyH_ready (rs := [3]) (by kernel_rfl) (by simp) ?_
  refine AllReadyH.cons rfl (fun K hK => ?_) AllReadyH.nil
  go_simp
  go_wp2_with (first | (go_at_call 34; refine hcc.mono ?_; rintro _ w2 ⟨rfl, F1, G1, P1, M1⟩))
  have hnF1 : ¬ F1 w.heap.size := fun h => by rcases M1.2.1 _ h with h | h; exact hnF h; (have h3 : w1.heap.size ≤ w.heap.size := h; omega)
  have d1_2 := M1.1.cell c2 hnF
  have hz2 : w1.heap.size ≤ w2.heap.size := M1.1.size
  
  refine hK.out _ _ (d1_2) (fun hHeld => ?_)
  clear hK K
  (try simp only [Act.put, List.setIfInBounds_toArray, List.set_cons_zero, List.set_cons_succ])
  refine wpAnyH_ready (rs := [4]) (by kernel_rfl) (by simp) ?_
  refine AllReadyH.cons rfl (fun K hK => ?_) AllReadyH.nil
  go_simp
  go_wp2_with (first | (go_at_call 8; refine (num_any _ _).mono ?_; rintro _ wn ⟨rfl, rfl⟩))
  refine hK.out _ _ (d1_2) (fun hHeld => ?_)
  clear hK K
  (try simp only [Act.put, List.setIfInBounds_toArray, List.set_cons_zero, List.set_cons_succ])
  have hce := P1.create2 hk hok hN
  refine wpAnyH_ready (rs := [8]) (by kernel_rfl) (by simp) ?_
  refine AllReadyH.cons rfl (fun K hK => ?_) AllReadyH.nil
  go_simp
  go_wp2_with (first | (go_at_call 35; refine hce.mono ?_; rintro _ w3 ⟨rfl, F2, G2, P2, M2⟩))
  have hnF2 : ¬ F2 w.heap.size := fun h => by rcases M2.2.1 _ h with h | h; exact hnF1 h; (have h3 : w2.heap.size ≤ w.heap.size := h; omega)
  have d2_2 := M2.1.cell d1_2 hnF1
  
  refine hK.out _ _ (d2_2) (fun hHeld => ?_)
  clear hK K
  (try simp only [Act.put, List.setIfInBounds_toArray, List.set_cons_zero, List.set_cons_succ])
  refine wpAnyH_take (i := 9) (v := ?_) rfl (by kernel_rfl) (by kernel_rfl) (by kernel_rfl) (fun _ _ _ h => h) (Or.inl ⟨by rfl, ?_⟩) hHeld ?_
  rotate_left
  · intro w hSw; (try dsimp only at hSw); go_simp
    all_goals (with_reducible rfl)
  (try simp only [Act.put, List.setIfInBounds_toArray, List.set_cons_zero, List.set_cons_succ])
  (try simp only [Act.put, List.getElem_toArray, List.getElem_cons_succ, List.getElem_cons_zero, List.setIfInBounds_toArray, List.set_cons_zero, List.set_cons_succ])
  refine wpAnyH_take (i := 10) (v := ?_) rfl (by kernel_rfl) (by kernel_rfl) (by kernel_rfl) (fun _ _ _ h => h) (Or.inl ⟨by rfl, ?_⟩) hHeld ?_
  rotate_left
  · intro w hSw; (try dsimp only at hSw); go_simp
    all_goals (with_reducible rfl)
  (try simp only [Act.put, List.setIfInBounds_toArray, List.set_cons_zero, List.set_cons_succ])
  (try simp only [Act.put, List.getElem_toArray, List.getElem_cons_succ, List.getElem_cons_zero, List.setIfInBounds_toArray, List.set_cons_zero, List.set_cons_succ])
  refine wpAnyH_done (by kernel_rfl) ?_ _
  have MM := (M0.trans M1).trans M2
  have PP := Lib.hid P2
  clear P1 P2 M1 M2 M0 hHeld
  go_wp2
  go_ret
  exact ⟨rfl, F2, G2, PP.out, MM⟩

set_option maxRecDepth 100000 in
set_option maxHeartbeats 4000000 in
theorem asks_cut (h : PairO F G w v1 o v2 o) {k t : List UInt8} {who at_ n sn st : Int} {da ka : Option Addr} {dl dc kl kc : Nat} (hk : k.length ≤ maxLen) (h64 : -9223372036854775808 ≤ at_ ∧ at_ < 9223372036854775808) (hok : ∀ s, o = some s → s.Ok N) (hN : N + 1 < maxList) (hF : ∀ b, F b → b < w.heap.size) (hG : ∀ b, G b → b < w.heap.size) :
    Calls Tryz.prog 9 #[.pointer v1, .pointer v2, .agg #[.int .i64 3, .int .i64 who, .string ⟨k.toArray⟩, .string ⟨t.toArray⟩, .int .i64 at_, .int .i64 n, .slice da dl dc, .int .i64 sn, .slice ka kl kc, .int .i64 st]] w fun e w' => e = .returned (.bool true) ∧ ∃ F' G', PairO F' G' w' v1 (actO (fun s => s.cut k at_) o).1 v2 (actO (fun s => s.cut k at_) o).1 ∧ Moves F G F' G' w w' := by
  obtain ⟨w1, hw1⟩ : ∃ w1, w.alloc (.cells #[.int .i64 3, .int .i64 who, .string ⟨k.toArray⟩, .string ⟨t.toArray⟩, .int .i64 at_, .int .i64 n, .slice da dl dc, .int .i64 sn, .slice ka kl kc, .int .i64 st] 41) = w1 := ⟨_, rfl⟩
  have hb1 : Below w.heap.size w w1 := by rw [← hw1]; exact below_alloc _ _
  have hbx : w1.heap[w.heap.size]? = some (.cells #[.int .i64 3, .int .i64 who, .string ⟨k.toArray⟩, .string ⟨t.toArray⟩, .int .i64 at_, .int .i64 n, .slice da dl dc, .int .i64 sn, .slice ka kl kc, .int .i64 st] 41 (0, 0)) := by rw [← hw1]; exact World.alloc_heap_new w _
  have hz1 : w1.heap.size = w.heap.size + 1 := by rw [← hw1]; simp
  have c0 := cell_of_heap hbx (i := 0) (v := .int .i64 3) (by rfl)
  have c2 := cell_of_heap hbx (i := 2) (v := .string ⟨k.toArray⟩) (by rfl)
  have c4 := cell_of_heap hbx (i := 4) (v := .int .i64 at_) (by rfl)
  have hP0 := (h.below hb1).kept (O := fun _ => False) ((Chg.refl (fun _ => False) w1).drew) (fun _ _ h => h) (fun _ _ h => h)
  have hcc := hP0.cut1 hk h64 hok hN
  have M0 : Moves F G F G w w1.drew := ⟨(Chg.of_below hb1).drew, fun _ h => .inl h, fun _ h => .inl h⟩
  have hnF : ¬ F w.heap.size := fun h => by have := hF _ h; omega
  have HP := Lib.hid (And.intro h hP0)
  clear h hP0 hbx
  go_enter Tryz.func9, Tryz.ntmps9
  go_upto_region 10 with (first | rw [hw1])
  refine wp_region_held_drew (S := fun w' => w'.cell? ⟨w.heap.size, 2, none⟩ = some (.string ⟨k.toArray⟩) ∧ w'.cell? ⟨w.heap.size, 4, none⟩ = some (.int .i64 at_)) (by kernel_rfl) (⟨c2, c4⟩) (fun hHeld => ?_)
  refine wpAnyH_take (i := 0) (v := ?_) rfl (by kernel_rfl) (by kernel_rfl) (by kernel_rfl) (fun _ _ _ h => h) (Or.inl ⟨by rfl, ?_⟩) hHeld ?_
  rotate_left
  · intro w hSw; (try dsimp only at hSw); go_simp
    all_goals (with_reducible rfl)
  (try simp only [Act.put, List.setIfInBounds_toArray, List.set_cons_zero, List.set_cons_succ])
  refine wpAnyH_take (i := 1) (v := ?_) rfl (by kernel_rfl) (by kernel_rfl) (by kernel_rfl) (fun _ _ _ h => h) (Or.inl ⟨by rfl, ?_⟩) hHeld ?_
  rotate_left
  · intro w hSw; (try dsimp only at hSw); go_simp
    all_goals (with_reducible rfl)
  (try simp only [Act.put, List.setIfInBounds_toArray, List.set_cons_zero, List.set_cons_succ])
  refine wpAnyH_take (i := 2) (v := ?_) rfl (by kernel_rfl) (by kernel_rfl) (by kernel_rfl) (fun _ _ _ h => h) (Or.inl ⟨by rfl, ?_⟩) hHeld ?_
  rotate_left
  · intro w hSw; (try dsimp only at hSw); go_simp
    all_goals (with_reducible rfl)
  (try simp only [Act.put, List.setIfInBounds_toArray, List.set_cons_zero, List.set_cons_succ])
  refine wpAnyH_take (i := 3) (v := ?_) rfl (by kernel_rfl) (by kernel_rfl) (by kernel_rfl) (fun _ _ _ h => h) (Or.inl ⟨by rfl, ?_⟩) hHeld ?_
  rotate_left
  · intro w hSw; (try dsimp only at hSw); go_simp
    all_goals (with_reducible rfl)
  (try simp only [Act.put, List.setIfInBounds_toArray, List.set_cons_zero, List.set_cons_succ])
  refine wpAnyH_take (i := 4) (v := ?_) rfl (by kernel_rfl) (by kernel_rfl) (by kernel_rfl) (fun _ _ _ h => h) (Or.inl ⟨by rfl, ?_⟩) hHeld ?_
  rotate_left
  · intro w hSw; (try dsimp only at hSw); go_simp
    all_goals (with_reducible rfl)
  (try simp only [Act.put, List.setIfInBounds_toArray, List.set_cons_zero, List.set_cons_succ])
  refine wpAnyH_take (i := 7) (v := ?_) rfl (by kernel_rfl) (by kernel_rfl) (by kernel_rfl) (fun _ _ _ h => h) (Or.inl ⟨by rfl, ?_⟩) hHeld ?_
  rotate_left
  · intro w hSw; (try dsimp only at hSw); go_simp
    all_goals (with_reducible rfl)
  (try simp only [Act.put, List.setIfInBounds_toArray, List.set_cons_zero, List.set_cons_succ])
  refine wpAnyH_take (i := 8) (v := ?_) rfl (by kernel_rfl) (by kernel_rfl) (by kernel_rfl) (fun _ _ _ h => h) (Or.inl ⟨by rfl, ?_⟩) hHeld ?_
  rotate_left
  · intro w hSw; (try dsimp only at hSw); go_simp
    all_goals (with_reducible rfl)
  (try simp only [Act.put, List.setIfInBounds_toArray, List.set_cons_zero, List.set_cons_succ])
  refine wpAnyH_take (i := 9) (v := ?_) rfl (by kernel_rfl) (by kernel_rfl) (by kernel_rfl) (fun _ _ _ h => h) (Or.inl ⟨by rfl, ?_⟩) hHeld ?_
  rotate_left
  · intro w hSw; (try dsimp only at hSw); go_simp
    all_goals (with_reducible rfl)
  (try simp only [Act.put, List.setIfInBounds_toArray, List.set_cons_zero, List.set_cons_succ])
  refine wpAnyH_take (i := 10) (v := ?_) rfl (by kernel_rfl) (by kernel_rfl) (by kernel_rfl) (fun _ _ _ h => h) (Or.inl ⟨by rfl, ?_⟩) hHeld ?_
  rotate_left
  · intro w hSw; (try dsimp only at hSw); go_simp
    all_goals (with_reducible rfl)
  (try simp only [Act.put, List.setIfInBounds_toArray, List.set_cons_zero, List.set_cons_succ])
  refine wpAnyH_take (i := 11) (v := ?_) rfl (by kernel_rfl) (by kernel_rfl) (by kernel_rfl) (fun _ _ _ h => h) (Or.inl ⟨by rfl, ?_⟩) hHeld ?_
  rotate_left
  · intro w hSw; (try dsimp only at hSw); go_simp
    all_goals (with_reducible rfl)
  (try simp only [Act.put, List.setIfInBounds_toArray, List.set_cons_zero, List.set_cons_succ])
  refine wpAnyH_ready (rs := [5]) (by kernel_rfl) (by simp) ?_
  refine AllReadyH.cons rfl (fun K hK => ?_) AllReadyH.nil
  go_simp
  go_wp2_with (first | (go_at_call 41; refine hcc.mono ?_; rintro _ w2 ⟨rfl, F1, G1, P1, M1⟩))
  have hnF1 : ¬ F1 w.heap.size := fun h => by rcases M1.2.1 _ h with h | h; exact hnF h; (have h3 : w1.heap.size ≤ w.heap.size := h; omega)
  have d1_2 := M1.1.cell c2 hnF
  have d1_4 := M1.1.cell c4 hnF
  have hz2 : w1.heap.size ≤ w2.heap.size := M1.1.size
  
  refine hK.out _ _ (⟨d1_2, d1_4⟩) (fun hHeld => ?_)
  clear hK K
  (try simp only [Act.put, List.setIfInBounds_toArray, List.set_cons_zero, List.set_cons_succ])
  refine wpAnyH_ready (rs := [6]) (by kernel_rfl) (by simp) ?_
  refine AllReadyH.cons rfl (fun K hK => ?_) AllReadyH.nil
  go_simp
  go_wp2_with (first | (go_at_call 8; refine (num_any _ _).mono ?_; rintro _ wn ⟨rfl, rfl⟩))
  refine hK.out _ _ (⟨d1_2, d1_4⟩) (fun hHeld => ?_)
  clear hK K
  (try simp only [Act.put, List.setIfInBounds_toArray, List.set_cons_zero, List.set_cons_succ])
  have hce := P1.cut2 hk h64 hok hN
  refine wpAnyH_ready (rs := [12]) (by kernel_rfl) (by simp) ?_
  refine AllReadyH.cons rfl (fun K hK => ?_) AllReadyH.nil
  go_simp
  go_wp2_with (first | (go_at_call 42; refine hce.mono ?_; rintro _ w3 ⟨rfl, F2, G2, P2, M2⟩))
  have hnF2 : ¬ F2 w.heap.size := fun h => by rcases M2.2.1 _ h with h | h; exact hnF1 h; (have h3 : w2.heap.size ≤ w.heap.size := h; omega)
  have d2_2 := M2.1.cell d1_2 hnF1
  have d2_4 := M2.1.cell d1_4 hnF1
  
  refine hK.out _ _ (⟨d2_2, d2_4⟩) (fun hHeld => ?_)
  clear hK K
  (try simp only [Act.put, List.setIfInBounds_toArray, List.set_cons_zero, List.set_cons_succ])
  refine wpAnyH_take (i := 13) (v := ?_) rfl (by kernel_rfl) (by kernel_rfl) (by kernel_rfl) (fun _ _ _ h => h) (Or.inl ⟨by rfl, ?_⟩) hHeld ?_
  rotate_left
  · intro w hSw; (try dsimp only at hSw); go_simp
    all_goals (with_reducible rfl)
  (try simp only [Act.put, List.setIfInBounds_toArray, List.set_cons_zero, List.set_cons_succ])
  (try simp only [Act.put, List.getElem_toArray, List.getElem_cons_succ, List.getElem_cons_zero, List.setIfInBounds_toArray, List.set_cons_zero, List.set_cons_succ])
  refine wpAnyH_take (i := 14) (v := ?_) rfl (by kernel_rfl) (by kernel_rfl) (by kernel_rfl) (fun _ _ _ h => h) (Or.inl ⟨by rfl, ?_⟩) hHeld ?_
  rotate_left
  · intro w hSw; (try dsimp only at hSw); go_simp
    all_goals (with_reducible rfl)
  (try simp only [Act.put, List.setIfInBounds_toArray, List.set_cons_zero, List.set_cons_succ])
  (try simp only [Act.put, List.getElem_toArray, List.getElem_cons_succ, List.getElem_cons_zero, List.setIfInBounds_toArray, List.set_cons_zero, List.set_cons_succ])
  refine wpAnyH_done (by kernel_rfl) ?_ _
  have MM := (M0.trans M1).trans M2
  have PP := Lib.hid P2
  clear P1 P2 M1 M2 M0 hHeld
  go_wp2
  go_ret
  exact ⟨rfl, F2, G2, PP.out, MM⟩

set_option maxRecDepth 100000 in
set_option maxHeartbeats 4000000 in
theorem asks_sync (h : PairO F G w v1 o v2 o) {k t : List UInt8} {who at_ n sn st : Int} {da ka : Option Addr} {dl dc kl kc : Nat} (hk : k.length ≤ maxLen) (hok : ∀ s, o = some s → s.Ok N) (hN : N + 1 < maxList) (hF : ∀ b, F b → b < w.heap.size) (hG : ∀ b, G b → b < w.heap.size) :
    Calls Tryz.prog 9 #[.pointer v1, .pointer v2, .agg #[.int .i64 4, .int .i64 who, .string ⟨k.toArray⟩, .string ⟨t.toArray⟩, .int .i64 at_, .int .i64 n, .slice da dl dc, .int .i64 sn, .slice ka kl kc, .int .i64 st]] w fun e w' => e = .returned (.bool true) ∧ ∃ F' G', PairO F' G' w' v1 (actO (fun s => s.sync k) o).1 v2 (actO (fun s => s.sync k) o).1 ∧ Moves F G F' G' w w' := by
  obtain ⟨w1, hw1⟩ : ∃ w1, w.alloc (.cells #[.int .i64 4, .int .i64 who, .string ⟨k.toArray⟩, .string ⟨t.toArray⟩, .int .i64 at_, .int .i64 n, .slice da dl dc, .int .i64 sn, .slice ka kl kc, .int .i64 st] 41) = w1 := ⟨_, rfl⟩
  have hb1 : Below w.heap.size w w1 := by rw [← hw1]; exact below_alloc _ _
  have hbx : w1.heap[w.heap.size]? = some (.cells #[.int .i64 4, .int .i64 who, .string ⟨k.toArray⟩, .string ⟨t.toArray⟩, .int .i64 at_, .int .i64 n, .slice da dl dc, .int .i64 sn, .slice ka kl kc, .int .i64 st] 41 (0, 0)) := by rw [← hw1]; exact World.alloc_heap_new w _
  have hz1 : w1.heap.size = w.heap.size + 1 := by rw [← hw1]; simp
  have c0 := cell_of_heap hbx (i := 0) (v := .int .i64 4) (by rfl)
  have c2 := cell_of_heap hbx (i := 2) (v := .string ⟨k.toArray⟩) (by rfl)
  have hP0 := (h.below hb1).kept (O := fun _ => False) ((Chg.refl (fun _ => False) w1).drew) (fun _ _ h => h) (fun _ _ h => h)
  have hcc := hP0.sync1 hk hok hN
  have M0 : Moves F G F G w w1.drew := ⟨(Chg.of_below hb1).drew, fun _ h => .inl h, fun _ h => .inl h⟩
  have hnF : ¬ F w.heap.size := fun h => by have := hF _ h; omega
  have HP := Lib.hid (And.intro h hP0)
  clear h hP0 hbx
  go_enter Tryz.func9, Tryz.ntmps9
  go_upto_region 12 with (first | rw [hw1])
  refine wp_region_held_drew (S := fun w' => w'.cell? ⟨w.heap.size, 2, none⟩ = some (.string ⟨k.toArray⟩)) (by kernel_rfl) (c2) (fun hHeld => ?_)
  refine wpAnyH_take (i := 0) (v := ?_) rfl (by kernel_rfl) (by kernel_rfl) (by kernel_rfl) (fun _ _ _ h => h) (Or.inl ⟨by rfl, ?_⟩) hHeld ?_
  rotate_left
  · intro w hSw; (try dsimp only at hSw); go_simp
    all_goals (with_reducible rfl)
  (try simp only [Act.put, List.setIfInBounds_toArray, List.set_cons_zero, List.set_cons_succ])
  refine wpAnyH_take (i := 1) (v := ?_) rfl (by kernel_rfl) (by kernel_rfl) (by kernel_rfl) (fun _ _ _ h => h) (Or.inl ⟨by rfl, ?_⟩) hHeld ?_
  rotate_left
  · intro w hSw; (try dsimp only at hSw); go_simp
    all_goals (with_reducible rfl)
  (try simp only [Act.put, List.setIfInBounds_toArray, List.set_cons_zero, List.set_cons_succ])
  refine wpAnyH_take (i := 2) (v := ?_) rfl (by kernel_rfl) (by kernel_rfl) (by kernel_rfl) (fun _ _ _ h => h) (Or.inl ⟨by rfl, ?_⟩) hHeld ?_
  rotate_left
  · intro w hSw; (try dsimp only at hSw); go_simp
    all_goals (with_reducible rfl)
  (try simp only [Act.put, List.setIfInBounds_toArray, List.set_cons_zero, List.set_cons_succ])
  refine wpAnyH_take (i := 5) (v := ?_) rfl (by kernel_rfl) (by kernel_rfl) (by kernel_rfl) (fun _ _ _ h => h) (Or.inl ⟨by rfl, ?_⟩) hHeld ?_
  rotate_left
  · intro w hSw; (try dsimp only at hSw); go_simp
    all_goals (with_reducible rfl)
  (try simp only [Act.put, List.setIfInBounds_toArray, List.set_cons_zero, List.set_cons_succ])
  refine wpAnyH_take (i := 6) (v := ?_) rfl (by kernel_rfl) (by kernel_rfl) (by kernel_rfl) (fun _ _ _ h => h) (Or.inl ⟨by rfl, ?_⟩) hHeld ?_
  rotate_left
  · intro w hSw; (try dsimp only at hSw); go_simp
    all_goals (with_reducible rfl)
  (try simp only [Act.put, List.setIfInBounds_toArray, List.set_cons_zero, List.set_cons_succ])
  refine wpAnyH_take (i := 7) (v := ?_) rfl (by kernel_rfl) (by kernel_rfl) (by kernel_rfl) (fun _ _ _ h => h) (Or.inl ⟨by rfl, ?_⟩) hHeld ?_
  rotate_left
  · intro w hSw; (try dsimp only at hSw); go_simp
    all_goals (with_reducible rfl)
  (try simp only [Act.put, List.setIfInBounds_toArray, List.set_cons_zero, List.set_cons_succ])
  refine wpAnyH_ready (rs := [3]) (by kernel_rfl) (by simp) ?_
  refine AllReadyH.cons rfl (fun K hK => ?_) AllReadyH.nil
  go_simp
  go_wp2_with (first | (go_at_call 43; refine hcc.mono ?_; rintro _ w2 ⟨rfl, F1, G1, P1, M1⟩))
  have hnF1 : ¬ F1 w.heap.size := fun h => by rcases M1.2.1 _ h with h | h; exact hnF h; (have h3 : w1.heap.size ≤ w.heap.size := h; omega)
  have d1_2 := M1.1.cell c2 hnF
  have hz2 : w1.heap.size ≤ w2.heap.size := M1.1.size
  
  refine hK.out _ _ (d1_2) (fun hHeld => ?_)
  clear hK K
  (try simp only [Act.put, List.setIfInBounds_toArray, List.set_cons_zero, List.set_cons_succ])
  refine wpAnyH_ready (rs := [4]) (by kernel_rfl) (by simp) ?_
  refine AllReadyH.cons rfl (fun K hK => ?_) AllReadyH.nil
  go_simp
  go_wp2_with (first | (go_at_call 8; refine (num_any _ _).mono ?_; rintro _ wn ⟨rfl, rfl⟩))
  refine hK.out _ _ (d1_2) (fun hHeld => ?_)
  clear hK K
  (try simp only [Act.put, List.setIfInBounds_toArray, List.set_cons_zero, List.set_cons_succ])
  have hce := P1.sync2 hk hok hN
  refine wpAnyH_ready (rs := [8]) (by kernel_rfl) (by simp) ?_
  refine AllReadyH.cons rfl (fun K hK => ?_) AllReadyH.nil
  go_simp
  go_wp2_with (first | (go_at_call 44; refine hce.mono ?_; rintro _ w3 ⟨rfl, F2, G2, P2, M2⟩))
  have hnF2 : ¬ F2 w.heap.size := fun h => by rcases M2.2.1 _ h with h | h; exact hnF1 h; (have h3 : w2.heap.size ≤ w.heap.size := h; omega)
  have d2_2 := M2.1.cell d1_2 hnF1
  
  refine hK.out _ _ (d2_2) (fun hHeld => ?_)
  clear hK K
  (try simp only [Act.put, List.setIfInBounds_toArray, List.set_cons_zero, List.set_cons_succ])
  refine wpAnyH_take (i := 9) (v := ?_) rfl (by kernel_rfl) (by kernel_rfl) (by kernel_rfl) (fun _ _ _ h => h) (Or.inl ⟨by rfl, ?_⟩) hHeld ?_
  rotate_left
  · intro w hSw; (try dsimp only at hSw); go_simp
    all_goals (with_reducible rfl)
  (try simp only [Act.put, List.setIfInBounds_toArray, List.set_cons_zero, List.set_cons_succ])
  (try simp only [Act.put, List.getElem_toArray, List.getElem_cons_succ, List.getElem_cons_zero, List.setIfInBounds_toArray, List.set_cons_zero, List.set_cons_succ])
  refine wpAnyH_take (i := 10) (v := ?_) rfl (by kernel_rfl) (by kernel_rfl) (by kernel_rfl) (fun _ _ _ h => h) (Or.inl ⟨by rfl, ?_⟩) hHeld ?_
  rotate_left
  · intro w hSw; (try dsimp only at hSw); go_simp
    all_goals (with_reducible rfl)
  (try simp only [Act.put, List.setIfInBounds_toArray, List.set_cons_zero, List.set_cons_succ])
  (try simp only [Act.put, List.getElem_toArray, List.getElem_cons_succ, List.getElem_cons_zero, List.setIfInBounds_toArray, List.set_cons_zero, List.set_cons_succ])
  refine wpAnyH_done (by kernel_rfl) ?_ _
  have MM := (M0.trans M1).trans M2
  have PP := Lib.hid P2
  clear P1 P2 M1 M2 M0 hHeld
  go_wp2
  go_ret
  exact ⟨rfl, F2, G2, PP.out, MM⟩

set_option maxRecDepth 100000 in
set_option maxHeartbeats 4000000 in
theorem asks_rename (h : PairO F G w v1 o v2 o) {k t : List UInt8} {who at_ n sn st : Int} {da ka : Option Addr} {dl dc kl kc : Nat} (hk : k.length ≤ maxLen) (ht : t.length ≤ maxLen) (hok : ∀ s, o = some s → s.Ok N) (hN : N + 1 < maxList) (hF : ∀ b, F b → b < w.heap.size) (hG : ∀ b, G b → b < w.heap.size) :
    Calls Tryz.prog 9 #[.pointer v1, .pointer v2, .agg #[.int .i64 6, .int .i64 who, .string ⟨k.toArray⟩, .string ⟨t.toArray⟩, .int .i64 at_, .int .i64 n, .slice da dl dc, .int .i64 sn, .slice ka kl kc, .int .i64 st]] w fun e w' => e = .returned (.bool true) ∧ ∃ F' G', PairO F' G' w' v1 (actO (fun s => s.rename k t) o).1 v2 (actO (fun s => s.rename k t) o).1 ∧ Moves F G F' G' w w' := by
  obtain ⟨w1, hw1⟩ : ∃ w1, w.alloc (.cells #[.int .i64 6, .int .i64 who, .string ⟨k.toArray⟩, .string ⟨t.toArray⟩, .int .i64 at_, .int .i64 n, .slice da dl dc, .int .i64 sn, .slice ka kl kc, .int .i64 st] 41) = w1 := ⟨_, rfl⟩
  have hb1 : Below w.heap.size w w1 := by rw [← hw1]; exact below_alloc _ _
  have hbx : w1.heap[w.heap.size]? = some (.cells #[.int .i64 6, .int .i64 who, .string ⟨k.toArray⟩, .string ⟨t.toArray⟩, .int .i64 at_, .int .i64 n, .slice da dl dc, .int .i64 sn, .slice ka kl kc, .int .i64 st] 41 (0, 0)) := by rw [← hw1]; exact World.alloc_heap_new w _
  have hz1 : w1.heap.size = w.heap.size + 1 := by rw [← hw1]; simp
  have c0 := cell_of_heap hbx (i := 0) (v := .int .i64 6) (by rfl)
  have c2 := cell_of_heap hbx (i := 2) (v := .string ⟨k.toArray⟩) (by rfl)
  have c3 := cell_of_heap hbx (i := 3) (v := .string ⟨t.toArray⟩) (by rfl)
  have hP0 := (h.below hb1).kept (O := fun _ => False) ((Chg.refl (fun _ => False) w1).drew) (fun _ _ h => h) (fun _ _ h => h)
  have hcc := hP0.rename1 hk ht hok hN
  have M0 : Moves F G F G w w1.drew := ⟨(Chg.of_below hb1).drew, fun _ h => .inl h, fun _ h => .inl h⟩
  have hnF : ¬ F w.heap.size := fun h => by have := hF _ h; omega
  have HP := Lib.hid (And.intro h hP0)
  clear h hP0 hbx
  go_enter Tryz.func9, Tryz.ntmps9
  go_upto_region 16 with (first | rw [hw1])
  refine wp_region_held_drew (S := fun w' => w'.cell? ⟨w.heap.size, 2, none⟩ = some (.string ⟨k.toArray⟩) ∧ w'.cell? ⟨w.heap.size, 3, none⟩ = some (.string ⟨t.toArray⟩)) (by kernel_rfl) (⟨c2, c3⟩) (fun hHeld => ?_)
  refine wpAnyH_take (i := 0) (v := ?_) rfl (by kernel_rfl) (by kernel_rfl) (by kernel_rfl) (fun _ _ _ h => h) (Or.inl ⟨by rfl, ?_⟩) hHeld ?_
  rotate_left
  · intro w hSw; (try dsimp only at hSw); go_simp
    all_goals (with_reducible rfl)
  (try simp only [Act.put, List.setIfInBounds_toArray, List.set_cons_zero, List.set_cons_succ])
  refine wpAnyH_take (i := 1) (v := ?_) rfl (by kernel_rfl) (by kernel_rfl) (by kernel_rfl) (fun _ _ _ h => h) (Or.inl ⟨by rfl, ?_⟩) hHeld ?_
  rotate_left
  · intro w hSw; (try dsimp only at hSw); go_simp
    all_goals (with_reducible rfl)
  (try simp only [Act.put, List.setIfInBounds_toArray, List.set_cons_zero, List.set_cons_succ])
  refine wpAnyH_take (i := 2) (v := ?_) rfl (by kernel_rfl) (by kernel_rfl) (by kernel_rfl) (fun _ _ _ h => h) (Or.inl ⟨by rfl, ?_⟩) hHeld ?_
  rotate_left
  · intro w hSw; (try dsimp only at hSw); go_simp
    all_goals (with_reducible rfl)
  (try simp only [Act.put, List.setIfInBounds_toArray, List.set_cons_zero, List.set_cons_succ])
  refine wpAnyH_take (i := 3) (v := ?_) rfl (by kernel_rfl) (by kernel_rfl) (by kernel_rfl) (fun _ _ _ h => h) (Or.inl ⟨by rfl, ?_⟩) hHeld ?_
  rotate_left
  · intro w hSw; (try dsimp only at hSw); go_simp
    all_goals (with_reducible rfl)
  (try simp only [Act.put, List.setIfInBounds_toArray, List.set_cons_zero, List.set_cons_succ])
  refine wpAnyH_take (i := 4) (v := ?_) rfl (by kernel_rfl) (by kernel_rfl) (by kernel_rfl) (fun _ _ _ h => h) (Or.inl ⟨by rfl, ?_⟩) hHeld ?_
  rotate_left
  · intro w hSw; (try dsimp only at hSw); go_simp
    all_goals (with_reducible rfl)
  (try simp only [Act.put, List.setIfInBounds_toArray, List.set_cons_zero, List.set_cons_succ])
  refine wpAnyH_take (i := 7) (v := ?_) rfl (by kernel_rfl) (by kernel_rfl) (by kernel_rfl) (fun _ _ _ h => h) (Or.inl ⟨by rfl, ?_⟩) hHeld ?_
  rotate_left
  · intro w hSw; (try dsimp only at hSw); go_simp
    all_goals (with_reducible rfl)
  (try simp only [Act.put, List.setIfInBounds_toArray, List.set_cons_zero, List.set_cons_succ])
  refine wpAnyH_take (i := 8) (v := ?_) rfl (by kernel_rfl) (by kernel_rfl) (by kernel_rfl) (fun _ _ _ h => h) (Or.inl ⟨by rfl, ?_⟩) hHeld ?_
  rotate_left
  · intro w hSw; (try dsimp only at hSw); go_simp
    all_goals (with_reducible rfl)
  (try simp only [Act.put, List.setIfInBounds_toArray, List.set_cons_zero, List.set_cons_succ])
  refine wpAnyH_take (i := 9) (v := ?_) rfl (by kernel_rfl) (by kernel_rfl) (by kernel_rfl) (fun _ _ _ h => h) (Or.inl ⟨by rfl, ?_⟩) hHeld ?_
  rotate_left
  · intro w hSw; (try dsimp only at hSw); go_simp
    all_goals (with_reducible rfl)
  (try simp only [Act.put, List.setIfInBounds_toArray, List.set_cons_zero, List.set_cons_succ])
  refine wpAnyH_take (i := 10) (v := ?_) rfl (by kernel_rfl) (by kernel_rfl) (by kernel_rfl) (fun _ _ _ h => h) (Or.inl ⟨by rfl, ?_⟩) hHeld ?_
  rotate_left
  · intro w hSw; (try dsimp only at hSw); go_simp
    all_goals (with_reducible rfl)
  (try simp only [Act.put, List.setIfInBounds_toArray, List.set_cons_zero, List.set_cons_succ])
  refine wpAnyH_take (i := 11) (v := ?_) rfl (by kernel_rfl) (by kernel_rfl) (by kernel_rfl) (fun _ _ _ h => h) (Or.inl ⟨by rfl, ?_⟩) hHeld ?_
  rotate_left
  · intro w hSw; (try dsimp only at hSw); go_simp
    all_goals (with_reducible rfl)
  (try simp only [Act.put, List.setIfInBounds_toArray, List.set_cons_zero, List.set_cons_succ])
  refine wpAnyH_ready (rs := [5]) (by kernel_rfl) (by simp) ?_
  refine AllReadyH.cons rfl (fun K hK => ?_) AllReadyH.nil
  go_simp
  go_wp2_with (first | (go_at_call 47; refine hcc.mono ?_; rintro _ w2 ⟨rfl, F1, G1, P1, M1⟩))
  have hnF1 : ¬ F1 w.heap.size := fun h => by rcases M1.2.1 _ h with h | h; exact hnF h; (have h3 : w1.heap.size ≤ w.heap.size := h; omega)
  have d1_2 := M1.1.cell c2 hnF
  have d1_3 := M1.1.cell c3 hnF
  have hz2 : w1.heap.size ≤ w2.heap.size := M1.1.size
  
  refine hK.out _ _ (⟨d1_2, d1_3⟩) (fun hHeld => ?_)
  clear hK K
  (try simp only [Act.put, List.setIfInBounds_toArray, List.set_cons_zero, List.set_cons_succ])
  refine wpAnyH_ready (rs := [6]) (by kernel_rfl) (by simp) ?_
  refine AllReadyH.cons rfl (fun K hK => ?_) AllReadyH.nil
  go_simp
  go_wp2_with (first | (go_at_call 8; refine (num_any _ _).mono ?_; rintro _ wn ⟨rfl, rfl⟩))
  refine hK.out _ _ (⟨d1_2, d1_3⟩) (fun hHeld => ?_)
  clear hK K
  (try simp only [Act.put, List.setIfInBounds_toArray, List.set_cons_zero, List.set_cons_succ])
  have hce := P1.rename2 hk ht hok hN
  refine wpAnyH_ready (rs := [12]) (by kernel_rfl) (by simp) ?_
  refine AllReadyH.cons rfl (fun K hK => ?_) AllReadyH.nil
  go_simp
  go_wp2_with (first | (go_at_call 48; refine hce.mono ?_; rintro _ w3 ⟨rfl, F2, G2, P2, M2⟩))
  have hnF2 : ¬ F2 w.heap.size := fun h => by rcases M2.2.1 _ h with h | h; exact hnF1 h; (have h3 : w2.heap.size ≤ w.heap.size := h; omega)
  have d2_2 := M2.1.cell d1_2 hnF1
  have d2_3 := M2.1.cell d1_3 hnF1
  
  refine hK.out _ _ (⟨d2_2, d2_3⟩) (fun hHeld => ?_)
  clear hK K
  (try simp only [Act.put, List.setIfInBounds_toArray, List.set_cons_zero, List.set_cons_succ])
  refine wpAnyH_take (i := 13) (v := ?_) rfl (by kernel_rfl) (by kernel_rfl) (by kernel_rfl) (fun _ _ _ h => h) (Or.inl ⟨by rfl, ?_⟩) hHeld ?_
  rotate_left
  · intro w hSw; (try dsimp only at hSw); go_simp
    all_goals (with_reducible rfl)
  (try simp only [Act.put, List.setIfInBounds_toArray, List.set_cons_zero, List.set_cons_succ])
  (try simp only [Act.put, List.getElem_toArray, List.getElem_cons_succ, List.getElem_cons_zero, List.setIfInBounds_toArray, List.set_cons_zero, List.set_cons_succ])
  refine wpAnyH_take (i := 14) (v := ?_) rfl (by kernel_rfl) (by kernel_rfl) (by kernel_rfl) (fun _ _ _ h => h) (Or.inl ⟨by rfl, ?_⟩) hHeld ?_
  rotate_left
  · intro w hSw; (try dsimp only at hSw); go_simp
    all_goals (with_reducible rfl)
  (try simp only [Act.put, List.setIfInBounds_toArray, List.set_cons_zero, List.set_cons_succ])
  (try simp only [Act.put, List.getElem_toArray, List.getElem_cons_succ, List.getElem_cons_zero, List.setIfInBounds_toArray, List.set_cons_zero, List.set_cons_succ])
  refine wpAnyH_done (by kernel_rfl) ?_ _
  have MM := (M0.trans M1).trans M2
  have PP := Lib.hid P2
  clear P1 P2 M1 M2 M0 hHeld
  go_wp2
  go_ret
  exact ⟨rfl, F2, G2, PP.out, MM⟩

set_option maxRecDepth 100000 in
set_option maxHeartbeats 4000000 in
theorem asks_remove (h : PairO F G w v1 o v2 o) {k t : List UInt8} {who at_ n sn st : Int} {da ka : Option Addr} {dl dc kl kc : Nat} (hk : k.length ≤ maxLen) (hok : ∀ s, o = some s → s.Ok N) (hN : N + 1 < maxList) (hF : ∀ b, F b → b < w.heap.size) (hG : ∀ b, G b → b < w.heap.size) :
    Calls Tryz.prog 9 #[.pointer v1, .pointer v2, .agg #[.int .i64 7, .int .i64 who, .string ⟨k.toArray⟩, .string ⟨t.toArray⟩, .int .i64 at_, .int .i64 n, .slice da dl dc, .int .i64 sn, .slice ka kl kc, .int .i64 st]] w fun e w' => e = .returned (.bool true) ∧ ∃ F' G', PairO F' G' w' v1 (actO (fun s => s.remove k) o).1 v2 (actO (fun s => s.remove k) o).1 ∧ Moves F G F' G' w w' := by
  obtain ⟨w1, hw1⟩ : ∃ w1, w.alloc (.cells #[.int .i64 7, .int .i64 who, .string ⟨k.toArray⟩, .string ⟨t.toArray⟩, .int .i64 at_, .int .i64 n, .slice da dl dc, .int .i64 sn, .slice ka kl kc, .int .i64 st] 41) = w1 := ⟨_, rfl⟩
  have hb1 : Below w.heap.size w w1 := by rw [← hw1]; exact below_alloc _ _
  have hbx : w1.heap[w.heap.size]? = some (.cells #[.int .i64 7, .int .i64 who, .string ⟨k.toArray⟩, .string ⟨t.toArray⟩, .int .i64 at_, .int .i64 n, .slice da dl dc, .int .i64 sn, .slice ka kl kc, .int .i64 st] 41 (0, 0)) := by rw [← hw1]; exact World.alloc_heap_new w _
  have hz1 : w1.heap.size = w.heap.size + 1 := by rw [← hw1]; simp
  have c0 := cell_of_heap hbx (i := 0) (v := .int .i64 7) (by rfl)
  have c2 := cell_of_heap hbx (i := 2) (v := .string ⟨k.toArray⟩) (by rfl)
  have hP0 := (h.below hb1).kept (O := fun _ => False) ((Chg.refl (fun _ => False) w1).drew) (fun _ _ h => h) (fun _ _ h => h)
  have hcc := hP0.remove1 hk hok hN
  have M0 : Moves F G F G w w1.drew := ⟨(Chg.of_below hb1).drew, fun _ h => .inl h, fun _ h => .inl h⟩
  have hnF : ¬ F w.heap.size := fun h => by have := hF _ h; omega
  have HP := Lib.hid (And.intro h hP0)
  clear h hP0 hbx
  go_enter Tryz.func9, Tryz.ntmps9
  go_upto_region 18 with (first | rw [hw1])
  refine wp_region_held_drew (S := fun w' => w'.cell? ⟨w.heap.size, 2, none⟩ = some (.string ⟨k.toArray⟩)) (by kernel_rfl) (c2) (fun hHeld => ?_)
  refine wpAnyH_take (i := 0) (v := ?_) rfl (by kernel_rfl) (by kernel_rfl) (by kernel_rfl) (fun _ _ _ h => h) (Or.inl ⟨by rfl, ?_⟩) hHeld ?_
  rotate_left
  · intro w hSw; (try dsimp only at hSw); go_simp
    all_goals (with_reducible rfl)
  (try simp only [Act.put, List.setIfInBounds_toArray, List.set_cons_zero, List.set_cons_succ])
  refine wpAnyH_take (i := 1) (v := ?_) rfl (by kernel_rfl) (by kernel_rfl) (by kernel_rfl) (fun _ _ _ h => h) (Or.inl ⟨by rfl, ?_⟩) hHeld ?_
  rotate_left
  · intro w hSw; (try dsimp only at hSw); go_simp
    all_goals (with_reducible rfl)
  (try simp only [Act.put, List.setIfInBounds_toArray, List.set_cons_zero, List.set_cons_succ])
  refine wpAnyH_take (i := 2) (v := ?_) rfl (by kernel_rfl) (by kernel_rfl) (by kernel_rfl) (fun _ _ _ h => h) (Or.inl ⟨by rfl, ?_⟩) hHeld ?_
  rotate_left
  · intro w hSw; (try dsimp only at hSw); go_simp
    all_goals (with_reducible rfl)
  (try simp only [Act.put, List.setIfInBounds_toArray, List.set_cons_zero, List.set_cons_succ])
  refine wpAnyH_take (i := 5) (v := ?_) rfl (by kernel_rfl) (by kernel_rfl) (by kernel_rfl) (fun _ _ _ h => h) (Or.inl ⟨by rfl, ?_⟩) hHeld ?_
  rotate_left
  · intro w hSw; (try dsimp only at hSw); go_simp
    all_goals (with_reducible rfl)
  (try simp only [Act.put, List.setIfInBounds_toArray, List.set_cons_zero, List.set_cons_succ])
  refine wpAnyH_take (i := 6) (v := ?_) rfl (by kernel_rfl) (by kernel_rfl) (by kernel_rfl) (fun _ _ _ h => h) (Or.inl ⟨by rfl, ?_⟩) hHeld ?_
  rotate_left
  · intro w hSw; (try dsimp only at hSw); go_simp
    all_goals (with_reducible rfl)
  (try simp only [Act.put, List.setIfInBounds_toArray, List.set_cons_zero, List.set_cons_succ])
  refine wpAnyH_take (i := 7) (v := ?_) rfl (by kernel_rfl) (by kernel_rfl) (by kernel_rfl) (fun _ _ _ h => h) (Or.inl ⟨by rfl, ?_⟩) hHeld ?_
  rotate_left
  · intro w hSw; (try dsimp only at hSw); go_simp
    all_goals (with_reducible rfl)
  (try simp only [Act.put, List.setIfInBounds_toArray, List.set_cons_zero, List.set_cons_succ])
  refine wpAnyH_ready (rs := [3]) (by kernel_rfl) (by simp) ?_
  refine AllReadyH.cons rfl (fun K hK => ?_) AllReadyH.nil
  go_simp
  go_wp2_with (first | (go_at_call 49; refine hcc.mono ?_; rintro _ w2 ⟨rfl, F1, G1, P1, M1⟩))
  have hnF1 : ¬ F1 w.heap.size := fun h => by rcases M1.2.1 _ h with h | h; exact hnF h; (have h3 : w1.heap.size ≤ w.heap.size := h; omega)
  have d1_2 := M1.1.cell c2 hnF
  have hz2 : w1.heap.size ≤ w2.heap.size := M1.1.size
  
  refine hK.out _ _ (d1_2) (fun hHeld => ?_)
  clear hK K
  (try simp only [Act.put, List.setIfInBounds_toArray, List.set_cons_zero, List.set_cons_succ])
  refine wpAnyH_ready (rs := [4]) (by kernel_rfl) (by simp) ?_
  refine AllReadyH.cons rfl (fun K hK => ?_) AllReadyH.nil
  go_simp
  go_wp2_with (first | (go_at_call 8; refine (num_any _ _).mono ?_; rintro _ wn ⟨rfl, rfl⟩))
  refine hK.out _ _ (d1_2) (fun hHeld => ?_)
  clear hK K
  (try simp only [Act.put, List.setIfInBounds_toArray, List.set_cons_zero, List.set_cons_succ])
  have hce := P1.remove2 hk hok hN
  refine wpAnyH_ready (rs := [8]) (by kernel_rfl) (by simp) ?_
  refine AllReadyH.cons rfl (fun K hK => ?_) AllReadyH.nil
  go_simp
  go_wp2_with (first | (go_at_call 50; refine hce.mono ?_; rintro _ w3 ⟨rfl, F2, G2, P2, M2⟩))
  have hnF2 : ¬ F2 w.heap.size := fun h => by rcases M2.2.1 _ h with h | h; exact hnF1 h; (have h3 : w2.heap.size ≤ w.heap.size := h; omega)
  have d2_2 := M2.1.cell d1_2 hnF1
  
  refine hK.out _ _ (d2_2) (fun hHeld => ?_)
  clear hK K
  (try simp only [Act.put, List.setIfInBounds_toArray, List.set_cons_zero, List.set_cons_succ])
  refine wpAnyH_take (i := 9) (v := ?_) rfl (by kernel_rfl) (by kernel_rfl) (by kernel_rfl) (fun _ _ _ h => h) (Or.inl ⟨by rfl, ?_⟩) hHeld ?_
  rotate_left
  · intro w hSw; (try dsimp only at hSw); go_simp
    all_goals (with_reducible rfl)
  (try simp only [Act.put, List.setIfInBounds_toArray, List.set_cons_zero, List.set_cons_succ])
  (try simp only [Act.put, List.getElem_toArray, List.getElem_cons_succ, List.getElem_cons_zero, List.setIfInBounds_toArray, List.set_cons_zero, List.set_cons_succ])
  refine wpAnyH_take (i := 10) (v := ?_) rfl (by kernel_rfl) (by kernel_rfl) (by kernel_rfl) (fun _ _ _ h => h) (Or.inl ⟨by rfl, ?_⟩) hHeld ?_
  rotate_left
  · intro w hSw; (try dsimp only at hSw); go_simp
    all_goals (with_reducible rfl)
  (try simp only [Act.put, List.setIfInBounds_toArray, List.set_cons_zero, List.set_cons_succ])
  (try simp only [Act.put, List.getElem_toArray, List.getElem_cons_succ, List.getElem_cons_zero, List.setIfInBounds_toArray, List.set_cons_zero, List.set_cons_succ])
  refine wpAnyH_done (by kernel_rfl) ?_ _
  have MM := (M0.trans M1).trans M2
  have PP := Lib.hid P2
  clear P1 P2 M1 M2 M0 hHeld
  go_wp2
  go_ret
  exact ⟨rfl, F2, G2, PP.out, MM⟩

end

end Go.Proofs.YtgckcnnnblggbaaGreat
