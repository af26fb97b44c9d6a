/- Texts of this claim, one behind the other: ReA, ReB, ReC. -/
import Derived.Test.YtgckcnnnblggbaaGreatSt40
import Derived.Test.YtgckcnnnblggbaaGreatSt36
import Derived.Test.YtgckcnnnblggbaaGreatSt35
set_option linter.unusedSimpArgs false
set_option linter.unusedVariables false
/- asks: Read. -/
namespace Go.Proofs.YtgckcnnnblggbaaGreat
open Go.RowKit Go.Maps

set_option maxRecDepth 100000 in
set_option maxHeartbeats 1000000 in
theorem over_own {w : World} {lo n : Nat} {v : Value} {xs : List Value} (h : w.ownsRow lo 5 1 v n xs) (hn : n ≤ 140737488355328) :
    Calls Tryz.prog 40 #[v] w fun e w' => e = .returned (.tuple #[]) ∧ Chg (fun b => v.ownBlock = some b) w w' ∧ ∃ ys, w'.ownsRow lo 5 1 v n ys := by
  rcases h.2 with ⟨rfl, hn0⟩ | ⟨g, cap, cur, rfl, _⟩
  · subst hn0
    go_enter Tryz.func40, Tryz.ntmps40
    go_wp2
    go_loopw [2] (fun i wr => i = .int .i64 0 ∧ w = wr) (fun _ _ => 0)
    case atStart => exact ⟨rfl, rfl⟩
    case round =>
      obtain ⟨rfl, rfl⟩ := hrel
      go_wp2
      exact bodyPost_end (results_none rfl _ _ _) rfl ⟨rfl, Chg.refl _ _, xs, h⟩
  · exact (over_full h (Nat.le_refl _) hn).mono fun e w' ⟨k1, k2, k3⟩ => ⟨k1, k2.mono (fun b hb _ => by subst hb; rfl), k3⟩
theorem over_row {w : World} {lo n : Nat} {v : Value} {xs : List Value} (h : w.ownsRow lo 5 1 v n xs) (hn : n ≤ 140737488355328) :
    Calls Tryz.prog 40 #[v] w fun e w' => e = .returned (.tuple #[]) ∧ Chg (fun b => v.ownBlock = some b) w w' := (over_own h hn).mono fun e w' ⟨k1, k2, _⟩ => ⟨k1, k2⟩

section
variable {F G : Nat → Prop} {w : World} {v1 v2 : Option Addr} {o o1 o2 : Option DSt} {N : Nat}
theorem PairO.read1own (h : PairO F G w v1 o1 v2 o2) {k : List UInt8} (hk : k.length ≤ maxLen) {at_ n : Int} (h64 : -9223372036854775808 ≤ at_ ∧ at_ < 9223372036854775808) (hok : ∀ s, o1 = some s → s.Ok N) (hN : N < maxList) :
    Calls Tryz.prog 51 #[.pointer v1, .string ⟨k.toArray⟩, .int .i64 at_, .int .i64 n] w fun e w' => ∃ U, e = .returned (.tuple #[U, .int .i64 ((readO k at_ n o1).2 : Int)]) ∧ w'.ownsRow w.heap.size 5 1 U (readO k at_ n o1).1.length ((readO k at_ n o1).1.map bv) ∧ Below w.heap.size w w' := by
  obtain ⟨rfl, rfl, rfl, rfl⟩ | ⟨s1, s2, p, r, rfl, rfl, rfl, rfl, ht⟩ := h.cases
  · exact (Read_nil (.inl rfl)).mono fun e w' ⟨k1, k2⟩ => ⟨_, k1, World.ownsRow_nil _ _ _ _, k2⟩
  · obtain ⟨own, R, ⟨mf, mn, ms, fb, vs, vw, ss, ws, e, h1, rfl⟩, _⟩ := ht.has
    exact Read_own h1 hk (hok _ rfl) hN h64
theorem readO_len {k : List UInt8} {at_ n : Int} (hok : ∀ s, o = some s → s.Ok N) : (readO k at_ n o).1.length ≤ maxFile := by
  cases o with
  | none => simp [readO]
  | some s =>
    have h := hok s rfl
    show (s.read k at_ n).1.length ≤ _
    unfold DSt.read
    split
    · simp
    · split
      · simp
      · split
        · simp
        · rename_i f _ _ _
          have := h.stands_le f
          simp only [List.length_take, List.length_drop]
          omega

set_option maxRecDepth 100000 in
set_option maxHeartbeats 4000000 in
theorem asks_read (h : PairO F G w v1 o v2 o) {k t : List UInt8} {who at_ n sn st : Int} {da ka : Option Addr} {dl dc kl kc : Nat} (hk : k.length ≤ maxLen) (h64 : -9223372036854775808 ≤ at_ ∧ at_ < 9223372036854775808) (hn64 : -9223372036854775808 ≤ n ∧ n < 9223372036854775808) (hok : ∀ s, o = some s → s.Ok N) (hN : N < maxList) :
    Calls Tryz.prog 9 #[.pointer v1, .pointer v2, .agg #[.int .i64 8, .int .i64 who, .string ⟨k.toArray⟩, .string ⟨t.toArray⟩, .int .i64 at_, .int .i64 n, .slice da dl dc, .int .i64 sn, .slice ka kl kc, .int .i64 st]] w fun e w' => e = .returned (.bool true) ∧ ∃ F' G', PairO F' G' w' v1 o v2 o ∧ Moves F G F' G' w w' := by
  obtain ⟨w1, hw1⟩ : ∃ w1, w.alloc (.cells #[.int .i64 8, .int .i64 who, .string ⟨k.toArray⟩, .string ⟨t.toArray⟩, .int .i64 at_, .int .i64 n, .slice da dl dc, .int .i64 sn, .slice ka kl kc, .int .i64 st] 41) = w1 := ⟨_, rfl⟩
  have hb1 : Below w.heap.size w w1 := by rw [← hw1]; exact below_alloc _ _
  have hbx : w1.heap[w.heap.size]? = some (.cells #[.int .i64 8, .int .i64 who, .string ⟨k.toArray⟩, .string ⟨t.toArray⟩, .int .i64 at_, .int .i64 n, .slice da dl dc, .int .i64 sn, .slice ka kl kc, .int .i64 st] 41 (0, 0)) := by rw [← hw1]; exact World.alloc_heap_new w _
  have hz1 : w1.heap.size = w.heap.size + 1 := by rw [← hw1]; simp
  have c0 := cell_of_heap hbx (i := 0) (v := .int .i64 8) (by rfl)
  have c2 := cell_of_heap hbx (i := 2) (v := .string ⟨k.toArray⟩) (by rfl)
  have c4 := cell_of_heap hbx (i := 4) (v := .int .i64 at_) (by rfl)
  have c5 := cell_of_heap hbx (i := 5) (v := .int .i64 n) (by rfl)
  have h1 := h.below hb1
  have hcc := h1.read1own hk (n := n) h64 hok hN
  have hce := fun (W : World) (hW : Below w1.heap.size w1 W) => (h1.below hW).read2 (k := k) h64 hn64 hok hN
  have hlen := readO_len (o := o) (k := k) (at_ := at_) (n := n) hok
  have hmf : maxFile = 1099511627776 := rfl
  have HP := Lib.hid h
  clear h h1 hbx hok
  generalize readO k at_ n o = X at hcc hce hlen
  obtain ⟨L, q⟩ := X
  dsimp only at hcc hce hlen
  have hLL : (L == L) = true := by simp
  go_enter Tryz.func9, Tryz.ntmps9
  go_wp2_with (first | rw [hw1] | (go_at_call 51; refine hcc.mono ?_; rintro _ w2 ⟨U, rfl, ho, hb2⟩; obtain ⟨ua, uc, rfl, hur, _⟩ := RowAt.of_owns ho; have c22 := (hb2.cell (p := ⟨w.heap.size, 2, none⟩) (by show w.heap.size < _; omega)).trans c2; have c24 := (hb2.cell (p := ⟨w.heap.size, 4, none⟩) (by show w.heap.size < _; omega)).trans c4; have c25 := (hb2.cell (p := ⟨w.heap.size, 5, none⟩) (by show w.heap.size < _; omega)).trans c5; have hcf := hce w2 hb2) | (go_at_call 52; refine hcf.mono ?_; rintro _ w3 ⟨U3, rfl, hB3, hb3⟩; obtain ⟨xa, xc, rfl, _, _, hxr⟩ := hB3.row; have hS := Same_any (c := uc) (d := xc) (hur.below hb3) hxr; rw [hLL] at hS; have ho3 := (Chg.of_below (O := fun _ => False) hb3).row ho (fun _ _ h => h); have hov := over_row ho3 (by omega)) | (go_at_call 53; refine hS.mono ?_; rintro _ wn ⟨rfl, rfl⟩) | (go_at_call 8; refine (num_any _ _).mono ?_; rintro _ wn ⟨rfl, rfl⟩) | (go_at_call 40; refine hov.mono ?_; rintro _ w4 ⟨rfl, hc4⟩))
  go_ret
  have hbb : Below w.heap.size w w4 := ((Chg.of_below (O := fun _ => False) (hb1.trans ((hb2.trans (hb3.mono hb2.size)).mono hb1.size))).trans hc4 (fun b hb hlt => by have := (ho.lt b hb).1; omega)).below (fun _ h => h.elim)
  exact ⟨rfl, F, G, HP.out.below hbb, Moves.of_below hbb⟩
end

end Go.Proofs.YtgckcnnnblggbaaGreat
/- asks: Write. (printed by gen/asks3.py) -/
namespace Go.Proofs.YtgckcnnnblggbaaGreat
open Go.RowKit Go.Maps

theorem Lent.chg {w w' : World} {lo g c : Nat} {l : List UInt8} {O : Nat → Prop} (h : Lent w lo g c l) (hc : Chg O w w') (hO : ¬ O g) : Lent w' lo g c l := hc.row h (fun b hb => by cases hb; exact hO)

section
variable {F G : Nat → Prop} {w : World} {v1 v2 : Option Addr} {o : Option DSt} {N : Nat}
set_option maxRecDepth 100000 in
set_option maxHeartbeats 8000000 in
theorem asks_put (h : PairO F G w v1 o v2 o) {k t l : List UInt8} {who at_ n sn st : Int} {da ka : Option Addr} {dc kl kc : Nat} (hk : k.length ≤ maxLen) (hrow : RowAt w da (l.map bv)) (hnil : da = none → dc = 0) (hl : l.length ≤ 70368744177664) (h64 : -9223372036854775808 ≤ at_ ∧ at_ < 9223372036854775808) (hdF : ∀ y, da = some y → l ≠ [] → ¬ F y.block ∧ y.block < w.heap.size) (hok : ∀ s, o = some s → s.Ok N) (hN : N + 1 < maxList) (hF : ∀ b, F b → b < w.heap.size) (hG : ∀ b, G b → b < w.heap.size) :
    Calls Tryz.prog 9 #[.pointer v1, .pointer v2, .agg #[.int .i64 2, .int .i64 who, .string ⟨k.toArray⟩, .string ⟨t.toArray⟩, .int .i64 at_, .int .i64 n, .slice da l.length dc, .int .i64 sn, .slice ka kl kc, .int .i64 st]] w fun e w' => e = .returned (.bool true) ∧ ∃ F' G', PairO F' G' w' v1 (actO (fun s => s.put k at_ l) o).1 v2 (actO (fun s => s.put k at_ l) o).1 ∧ Moves F G F' G' w w' := by
  obtain ⟨w1, hw1⟩ : ∃ w1, w.alloc (.cells #[.int .i64 2, .int .i64 who, .string ⟨k.toArray⟩, .string ⟨t.toArray⟩, .int .i64 at_, .int .i64 n, .slice da l.length dc, .int .i64 sn, .slice ka kl kc, .int .i64 st] 41) = w1 := ⟨_, rfl⟩
  have hb1 : Below w.heap.size w w1 := by rw [← hw1]; exact below_alloc _ _
  have hbx : w1.heap[w.heap.size]? = some (.cells #[.int .i64 2, .int .i64 who, .string ⟨k.toArray⟩, .string ⟨t.toArray⟩, .int .i64 at_, .int .i64 n, .slice da l.length dc, .int .i64 sn, .slice ka kl kc, .int .i64 st] 41 (0, 0)) := by rw [← hw1]; exact World.alloc_heap_new w _
  have hz1 : w1.heap.size = w.heap.size + 1 := by rw [← hw1]; simp
  have c0 := cell_of_heap hbx (i := 0) (v := .int .i64 2) (by rfl)
  have c2 := cell_of_heap hbx (i := 2) (v := .string ⟨k.toArray⟩) (by rfl)
  have c4 := cell_of_heap hbx (i := 4) (v := .int .i64 at_) (by rfl)
  have c6 := cell_of_heap hbx (i := 6) (v := .slice da l.length dc) (by rfl)
  have hrow1 := hrow.below hb1
  have hlt := lent_any hrow1 hnil hl
  have hnF : ¬ F w.heap.size := fun h => by have := hF _ h; omega
  have HP := Lib.hid h
  clear h hbx hrow
  go_enter Tryz.func9, Tryz.ntmps9
  go_upto_region 6 with (first | rw [hw1] | (go_at_call 36; refine hlt.mono ?_; rintro _ w2 ⟨g, gc, rfl, hL2, hb2⟩))
  have hz2 := hb2.size
  have hgl := hL2.lt g rfl
  have hb12 : Below w.heap.size w w2 := hb1.trans (hb2.mono hb1.size)
  have hcb := Chg.of_below (O := fun _ => False) hb2
  have e2 := hcb.cell c2 (fun h => h)
  have e4 := hcb.cell c4 (fun h => h)
  have e6 := hcb.cell c6 (fun h => h)
  have hrow2 := hrow1.below hb2
  have hL2d := hL2.chg ((Chg.refl (fun _ => False) w2).drew) (fun h => h)
  have hP0 := (HP.out.below hb12).kept (O := fun _ => False) ((Chg.refl (fun _ => False) w2).drew) (fun _ _ h => h) (fun _ _ h => h)
  have hcc := hP0.put1 hk (xa := some ⟨g, 0, none⟩) (xc := gc) (l := l) hL2d.rowAt (fun h => by cases h) (by omega) h64 hok hN
  have M0 : Moves F G F G w w2.drew := ⟨(Chg.of_below hb12).drew, fun _ h => .inl h, fun _ h => .inl h⟩
  have hgF : ¬ F g := fun h => by have := hF _ h; omega
  clear hrow1 hP0
  refine wp_region_held_drew (S := fun w' => w'.cell? ⟨w.heap.size, 2, none⟩ = some (.string ⟨k.toArray⟩) ∧ w'.cell? ⟨w.heap.size, 4, none⟩ = some (.int .i64 at_) ∧ w'.cell? ⟨w.heap.size, 6, none⟩ = some (.slice da l.length dc)) (by kernel_rfl) (⟨e2, e4, e6⟩) (fun hHeld => ?_)
  refine wpAnyH_take (i := 0) (v := ?_) rfl (by kernel_rfl) (by kernel_rfl) (by kernel_rfl) (fun _ _ _ h => h) (Or.inl ⟨by rfl, ?_⟩) hHeld ?_
  rotate_left
  · intro w hSw; (try dsimp only at hSw); go_simp
    all_goals (with_reducible rfl)
  (try simp only [Act.put, List.setIfInBounds_toArray, List.set_cons_zero, List.set_cons_succ])
  refine wpAnyH_take (i := 1) (v := ?_) rfl (by kernel_rfl) (by kernel_rfl) (by kernel_rfl) (fun _ _ _ h => h) (Or.inl ⟨by rfl, ?_⟩) hHeld ?_
  rotate_left
  · intro w hSw; (try dsimp only at hSw); go_simp
    all_goals (with_reducible rfl)
  (try simp only [Act.put, List.setIfInBounds_toArray, List.set_cons_zero, List.set_cons_succ])
  refine wpAnyH_take (i := 2) (v := ?_) rfl (by kernel_rfl) (by kernel_rfl) (by kernel_rfl) (fun _ _ _ h => h) (Or.inl ⟨by rfl, ?_⟩) hHeld ?_
  rotate_left
  · intro w hSw; (try dsimp only at hSw); go_simp
    all_goals (with_reducible rfl)
  (try simp only [Act.put, List.setIfInBounds_toArray, List.set_cons_zero, List.set_cons_succ])
  refine wpAnyH_take (i := 3) (v := ?_) rfl (by kernel_rfl) (by kernel_rfl) (by kernel_rfl) (fun _ _ _ h => h) (Or.inl ⟨by rfl, ?_⟩) hHeld ?_
  rotate_left
  · intro w hSw; (try dsimp only at hSw); go_simp
    all_goals (with_reducible rfl)
  (try simp only [Act.put, List.setIfInBounds_toArray, List.set_cons_zero, List.set_cons_succ])
  refine wpAnyH_take (i := 4) (v := ?_) rfl (by kernel_rfl) (by kernel_rfl) (by kernel_rfl) (fun _ _ _ h => h) (Or.inl ⟨by rfl, ?_⟩) hHeld ?_
  rotate_left
  · intro w hSw; (try dsimp only at hSw); go_simp
    all_goals (with_reducible rfl)
  (try simp only [Act.put, List.setIfInBounds_toArray, List.set_cons_zero, List.set_cons_succ])
  refine wpAnyH_take (i := 5) (v := ?_) rfl (by kernel_rfl) (by kernel_rfl) (by kernel_rfl) (fun _ _ _ h => h) (Or.inl ⟨by rfl, ?_⟩) hHeld ?_
  rotate_left
  · intro w hSw; (try dsimp only at hSw); go_simp
    all_goals (with_reducible rfl)
  (try simp only [Act.put, List.setIfInBounds_toArray, List.set_cons_zero, List.set_cons_succ])
  refine wpAnyH_take (i := 8) (v := ?_) rfl (by kernel_rfl) (by kernel_rfl) (by kernel_rfl) (fun _ _ _ h => h) (Or.inl ⟨by rfl, ?_⟩) hHeld ?_
  rotate_left
  · intro w hSw; (try dsimp only at hSw); go_simp
    all_goals (with_reducible rfl)
  (try simp only [Act.put, List.setIfInBounds_toArray, List.set_cons_zero, List.set_cons_succ])
  refine wpAnyH_take (i := 9) (v := ?_) rfl (by kernel_rfl) (by kernel_rfl) (by kernel_rfl) (fun _ _ _ h => h) (Or.inl ⟨by rfl, ?_⟩) hHeld ?_
  rotate_left
  · intro w hSw; (try dsimp only at hSw); go_simp
    all_goals (with_reducible rfl)
  (try simp only [Act.put, List.setIfInBounds_toArray, List.set_cons_zero, List.set_cons_succ])
  refine wpAnyH_take (i := 10) (v := ?_) rfl (by kernel_rfl) (by kernel_rfl) (by kernel_rfl) (fun _ _ _ h => h) (Or.inl ⟨by rfl, ?_⟩) hHeld ?_
  rotate_left
  · intro w hSw; (try dsimp only at hSw); go_simp
    all_goals (with_reducible rfl)
  (try simp only [Act.put, List.setIfInBounds_toArray, List.set_cons_zero, List.set_cons_succ])
  refine wpAnyH_take (i := 11) (v := ?_) rfl (by kernel_rfl) (by kernel_rfl) (by kernel_rfl) (fun _ _ _ h => h) (Or.inl ⟨by rfl, ?_⟩) hHeld ?_
  rotate_left
  · intro w hSw; (try dsimp only at hSw); go_simp
    all_goals (with_reducible rfl)
  (try simp only [Act.put, List.setIfInBounds_toArray, List.set_cons_zero, List.set_cons_succ])
  refine wpAnyH_take (i := 12) (v := ?_) rfl (by kernel_rfl) (by kernel_rfl) (by kernel_rfl) (fun _ _ _ h => h) (Or.inl ⟨by rfl, ?_⟩) hHeld ?_
  rotate_left
  · intro w hSw; (try dsimp only at hSw); go_simp
    all_goals (with_reducible rfl)
  (try simp only [Act.put, List.setIfInBounds_toArray, List.set_cons_zero, List.set_cons_succ])
  refine wpAnyH_take (i := 13) (v := ?_) rfl (by kernel_rfl) (by kernel_rfl) (by kernel_rfl) (fun _ _ _ h => h) (Or.inl ⟨by rfl, ?_⟩) hHeld ?_
  rotate_left
  · intro w hSw; (try dsimp only at hSw); go_simp
    all_goals (with_reducible rfl)
  (try simp only [Act.put, List.setIfInBounds_toArray, List.set_cons_zero, List.set_cons_succ])
  refine wpAnyH_take (i := 14) (v := ?_) rfl (by kernel_rfl) (by kernel_rfl) (by kernel_rfl) (fun _ _ _ h => h) (Or.inl ⟨by rfl, ?_⟩) hHeld ?_
  rotate_left
  · intro w hSw; (try dsimp only at hSw); go_simp
    all_goals (with_reducible rfl)
  (try simp only [Act.put, List.setIfInBounds_toArray, List.set_cons_zero, List.set_cons_succ])
  refine wpAnyH_ready (rs := [6]) (by kernel_rfl) (by simp) ?_
  refine AllReadyH.cons rfl (fun K hK => ?_) AllReadyH.nil
  go_simp
  go_wp2_with (first | (go_at_call 37; refine hcc.mono ?_; rintro _ w3 ⟨rfl, F1, G1, P1, M1⟩))
  have hz3 : w2.heap.size ≤ w3.heap.size := M1.1.size
  have hF1 : ∀ b, F1 b → F b ∨ w2.heap.size ≤ b := M1.2.1
  have hG1 : ∀ b, G1 b → G b ∨ w2.heap.size ≤ b := M1.2.2
  have hnF1 : ¬ F1 w.heap.size := fun h => by rcases hF1 _ h with h | h; exact hnF h; omega
  have hgF1 : ¬ F1 g := fun h => by rcases hF1 _ h with h | h; exact hgF h; omega
  have hL3 := hL2d.chg M1.1 hgF
  have hrow3 : RowAt w3 da (l.map bv) := RowAt.chg (w := w2.drew) (w' := w3) (fun hx => hrow2 hx) M1.1 (fun hx y e => (hdF y e (fun h => hx (by rw [h]; rfl))).1)
  have d2 := M1.1.cell (w := w2.drew) e2 hnF
  have d4 := M1.1.cell (w := w2.drew) e4 hnF
  have d6 := M1.1.cell (w := w2.drew) e6 hnF
  
  refine hK.out _ _ (⟨d2, d4, d6⟩) (fun hHeld => ?_)
  clear hK K
  (try simp only [Act.put, List.setIfInBounds_toArray, List.set_cons_zero, List.set_cons_succ])
  refine wpAnyH_ready (rs := [7]) (by kernel_rfl) (by simp) ?_
  refine AllReadyH.cons rfl (fun K hK => ?_) AllReadyH.nil
  go_simp
  go_wp2_with (first | (go_at_call 8; refine (num_any _ _).mono ?_; rintro _ wn ⟨rfl, rfl⟩))
  refine hK.out _ _ (⟨d2, d4, d6⟩) (fun hHeld => ?_)
  clear hK K
  (try simp only [Act.put, List.setIfInBounds_toArray, List.set_cons_zero, List.set_cons_succ])
  have hce := P1.put2 hk (xa := da) (xc := dc) (l := l) hrow3 hnil (by omega) h64 (fun y e hx hy => by
    have h1 := hdF y e hx
    rcases hF1 _ hy with h | h
    · exact h1.1 h
    · omega) hok hN
  refine wpAnyH_ready (rs := [15]) (by kernel_rfl) (by simp) ?_
  refine AllReadyH.cons rfl (fun K hK => ?_) AllReadyH.nil
  go_simp
  go_wp2_with (first | (go_at_call 38; refine hce.mono ?_; rintro _ w4 ⟨rfl, F2, G2, P2, M2⟩))
  have hz4 : w3.heap.size ≤ w4.heap.size := M2.1.size
  have hL4 := hL3.chg M2.1 hgF1
  have hrow4 : RowAt w4 da (l.map bv) := hrow3.chg M2.1 (fun hx y e hy => by
    have h1 := hdF y e (fun h => hx (by rw [h]; rfl))
    rcases hF1 _ hy with h | h
    · exact h1.1 h
    · omega)
  have hlf := left_any (d := dc) hL4 hrow4 hl
  have f2 := M2.1.cell d2 hnF1
  have f4 := M2.1.cell d4 hnF1
  have f6 := M2.1.cell d6 hnF1
  
  refine hK.out _ _ (⟨f2, f4, f6⟩) (fun hHeld => ?_)
  clear hK K
  (try simp only [Act.put, List.setIfInBounds_toArray, List.set_cons_zero, List.set_cons_succ])
  refine wpAnyH_take (i := 16) (v := ?_) rfl (by kernel_rfl) (by kernel_rfl) (by kernel_rfl) (fun _ _ _ h => h) (Or.inl ⟨by rfl, ?_⟩) hHeld ?_
  rotate_left
  · intro w hSw; (try dsimp only at hSw); go_simp
    all_goals (with_reducible rfl)
  (try simp only [Act.put, List.setIfInBounds_toArray, List.set_cons_zero, List.set_cons_succ])
  (try simp only [Act.put, List.getElem_toArray, List.getElem_cons_succ, List.getElem_cons_zero, List.setIfInBounds_toArray, List.set_cons_zero, List.set_cons_succ])
  refine wpAnyH_take (i := 17) (v := ?_) rfl (by kernel_rfl) (by kernel_rfl) (by kernel_rfl) (fun _ _ _ h => h) (Or.inl ⟨by rfl, ?_⟩) hHeld ?_
  rotate_left
  · intro w hSw; (try dsimp only at hSw); go_simp
    all_goals (with_reducible rfl)
  (try simp only [Act.put, List.setIfInBounds_toArray, List.set_cons_zero, List.set_cons_succ])
  (try simp only [Act.put, List.getElem_toArray, List.getElem_cons_succ, List.getElem_cons_zero, List.setIfInBounds_toArray, List.set_cons_zero, List.set_cons_succ])
  refine wpAnyH_take (i := 18) (v := ?_) rfl (by kernel_rfl) (by kernel_rfl) (by kernel_rfl) (fun _ _ _ h => h) (Or.inl ⟨by rfl, ?_⟩) hHeld ?_
  rotate_left
  · intro w hSw; (try dsimp only at hSw); go_simp
    all_goals (with_reducible rfl)
  (try simp only [Act.put, List.setIfInBounds_toArray, List.set_cons_zero, List.set_cons_succ])
  (try simp only [Act.put, List.getElem_toArray, List.getElem_cons_succ, List.getElem_cons_zero, List.setIfInBounds_toArray, List.set_cons_zero, List.set_cons_succ])
  refine wpAnyH_take (i := 19) (v := ?_) rfl (by kernel_rfl) (by kernel_rfl) (by kernel_rfl) (fun _ _ _ h => h) (Or.inl ⟨by rfl, ?_⟩) hHeld ?_
  rotate_left
  · intro w hSw; (try dsimp only at hSw); go_simp
    all_goals (with_reducible rfl)
  (try simp only [Act.put, List.setIfInBounds_toArray, List.set_cons_zero, List.set_cons_succ])
  (try simp only [Act.put, List.getElem_toArray, List.getElem_cons_succ, List.getElem_cons_zero, List.setIfInBounds_toArray, List.set_cons_zero, List.set_cons_succ])
  refine wpAnyH_take (i := 20) (v := ?_) rfl (by kernel_rfl) (by kernel_rfl) (by kernel_rfl) (fun _ _ _ h => h) (Or.inl ⟨by rfl, ?_⟩) hHeld ?_
  rotate_left
  · intro w hSw; (try dsimp only at hSw); go_simp
    all_goals (with_reducible rfl)
  (try simp only [Act.put, List.setIfInBounds_toArray, List.set_cons_zero, List.set_cons_succ])
  (try simp only [Act.put, List.getElem_toArray, List.getElem_cons_succ, List.getElem_cons_zero, List.setIfInBounds_toArray, List.set_cons_zero, List.set_cons_succ])
  refine wpAnyH_ready (rs := [21]) (by kernel_rfl) (by simp) ?_
  refine AllReadyH.cons rfl (fun K hK => ?_) AllReadyH.nil
  go_simp
  go_wp2_with (first | (go_at_call 39; refine hlf.mono ?_; rintro _ wn ⟨rfl, rfl⟩))
  refine hK.out _ _ (⟨f2, f4, f6⟩) (fun hHeld => ?_)
  clear hK K
  (try simp only [Act.put, List.setIfInBounds_toArray, List.set_cons_zero, List.set_cons_succ])
  refine wpAnyH_take (i := 22) (v := ?_) rfl (by kernel_rfl) (by kernel_rfl) (by kernel_rfl) (fun _ _ _ h => h) (Or.inl ⟨by rfl, ?_⟩) hHeld ?_
  rotate_left
  · intro w hSw; (try dsimp only at hSw); go_simp
    all_goals (with_reducible rfl)
  (try simp only [Act.put, List.setIfInBounds_toArray, List.set_cons_zero, List.set_cons_succ])
  (try simp only [Act.put, List.getElem_toArray, List.getElem_cons_succ, List.getElem_cons_zero, List.setIfInBounds_toArray, List.set_cons_zero, List.set_cons_succ])
  refine wpAnyH_take (i := 23) (v := ?_) rfl (by kernel_rfl) (by kernel_rfl) (by kernel_rfl) (fun _ _ _ h => h) (Or.inl ⟨by rfl, ?_⟩) hHeld ?_
  rotate_left
  · intro w hSw; (try dsimp only at hSw); go_simp
    all_goals (with_reducible rfl)
  (try simp only [Act.put, List.setIfInBounds_toArray, List.set_cons_zero, List.set_cons_succ])
  (try simp only [Act.put, List.getElem_toArray, List.getElem_cons_succ, List.getElem_cons_zero, List.setIfInBounds_toArray, List.set_cons_zero, List.set_cons_succ])
  refine wpAnyH_done (by kernel_rfl) ?_ _
  have hov := over_any (n := l.length) hL4 (by omega) (by omega)
  have MM := (M0.trans M1).trans M2
  have hgF2 : ¬ F2 g := fun h => by rcases M2.2.1 _ h with h | h; exact hgF1 h; omega
  have hgG2 : ¬ G2 g := fun h => by
    rcases M2.2.2 _ h with h | h
    · rcases hG1 _ h with h | h
      · have := hG _ h; omega
      · omega
    · omega
  have PP := Lib.hid P2
  clear P1 P2 M1 M2 M0 hHeld hcc hce hlf
  go_wp2_with (first | (go_at_call 40; refine hov.mono ?_; rintro _ w5 ⟨rfl, hc5⟩))
  go_ret
  exact ⟨rfl, F2, G2, PP.out.kept hc5 (fun b hb e => hgF2 (e ▸ hb)) (fun b hb e => hgG2 (e ▸ hb)), MM.1.trans hc5 (fun b hb hlt => by subst hb; omega), MM.2.1, MM.2.2⟩
end

end Go.Proofs.YtgckcnnnblggbaaGreat
/- asks: All gone over. -/
namespace Go.Proofs.YtgckcnnnblggbaaGreat
open Go.RowKit Go.Maps

/-- all files of a disk that may be none -/
def allO : Option DSt → List (List UInt8 × List UInt8)
  | none => []
  | some s => s.all
section
variable {F G : Nat → Prop} {w : World} {v1 v2 : Option Addr} {o o1 o2 : Option DSt} {N : Nat}
theorem PairO.files1 (h : PairO F G w v1 o1 v2 o2) (hok : ∀ s, o1 = some s → s.Ok N) (hN : N < maxList) :
    Calls Tryz.prog 14 #[.pointer v1] w fun e w' => ∃ v cs, e = .returned v ∧ FilesAt w' w.heap.size (w.heap.size + 1) v cs (allO o1) ∧ Below w.heap.size w w' := by
  obtain ⟨rfl, rfl, rfl, rfl⟩ | ⟨s1, s2, p, r, rfl, rfl, rfl, rfl, ht⟩ := h.cases
  · exact Files_nil (.inl rfl)
  · exact ht.has.files (hok _ rfl) hN
theorem PairO.files2 (h : PairO F G w v1 o1 v2 o2) (hok : ∀ s, o2 = some s → s.Ok N) (hN : N < maxList) :
    Calls Tryz.prog 18 #[.pointer v2] w fun e w' => ∃ fa fc, e = .returned (.slice fa (allO o2).length fc) ∧ FilesRd w' fa (allO o2) ∧ Below w.heap.size w w' := by
  have hmx : maxList = 4194304 := rfl
  obtain ⟨rfl, rfl, rfl, rfl⟩ | ⟨s1, s2, p, r, rfl, rfl, rfl, rfl, ht⟩ := h.cases
  · exact rFiles_nil w
  · obtain ⟨R2, h⟩ := ht.rat
    exact rFiles_any h (hok _ rfl) (by omega)
theorem allO_len (hok : ∀ s, o = some s → s.Ok N) (hN : N < maxList) : (allO o).length ≤ maxList := by
  cases o with
  | none => simp [allO]
  | some s =>
    have := (hok s rfl).manyNames
    simp only [allO, DSt.all, List.length_map]
    omega
theorem PairO.goes (h : PairO F G w v1 o v2 o) (leave : Int) (hok : ∀ s, o = some s → s.Ok N) (hN : N < maxList) :
    Calls Tryz.prog 20 #[.pointer v1, .pointer v2, .int .i64 leave] w fun e w' => e = .returned (.bool true) ∧ Below w.heap.size w w' :=
  goes_any (allO_len hok hN) leave (fun W hW => (h.below hW).files1 hok hN) (fun W hW => (h.below hW).files2 hok hN)

set_option maxRecDepth 100000 in
set_option maxHeartbeats 4000000 in
theorem asks_goes (h : PairO F G w v1 o v2 o) {k t : List UInt8} {who at_ n sn st : Int} {da ka : Option Addr} {dl dc kl kc : Nat} (hok : ∀ s, o = some s → s.Ok N) (hN : N < maxList) :
    Calls Tryz.prog 9 #[.pointer v1, .pointer v2, .agg #[.int .i64 12, .int .i64 who, .string ⟨k.toArray⟩, .string ⟨t.toArray⟩, .int .i64 at_, .int .i64 n, .slice da dl dc, .int .i64 sn, .slice ka kl kc, .int .i64 st]] w fun e w' => e = .returned (.bool true) ∧ ∃ F' G', PairO F' G' w' v1 o v2 o ∧ Moves F G F' G' w w' := by
  obtain ⟨w1, hw1⟩ : ∃ w1, w.alloc (.cells #[.int .i64 12, .int .i64 who, .string ⟨k.toArray⟩, .string ⟨t.toArray⟩, .int .i64 at_, .int .i64 n, .slice da dl dc, .int .i64 sn, .slice ka kl kc, .int .i64 st] 41) = w1 := ⟨_, rfl⟩
  have hb1 : Below w.heap.size w w1 := by rw [← hw1]; exact below_alloc _ _
  have hbx : w1.heap[w.heap.size]? = some (.cells #[.int .i64 12, .int .i64 who, .string ⟨k.toArray⟩, .string ⟨t.toArray⟩, .int .i64 at_, .int .i64 n, .slice da dl dc, .int .i64 sn, .slice ka kl kc, .int .i64 st] 41 (0, 0)) := by rw [← hw1]; exact World.alloc_heap_new w _
  have c0 := cell_of_heap hbx (i := 0) (v := .int .i64 12) (by rfl)
  have c5 := cell_of_heap hbx (i := 5) (v := .int .i64 n) (by rfl)
  have hcc := (h.below hb1).goes n hok hN
  have HP := Lib.hid h
  clear h hbx hok
  go_enter Tryz.func9, Tryz.ntmps9
  go_wp2_with (first | rw [hw1] | (go_at_call 20; refine hcc.mono ?_; rintro _ w2 ⟨rfl, hb2⟩))
  go_ret
  have hbb := hb1.trans (hb2.mono hb1.size)
  exact ⟨rfl, F, G, HP.out.below hbb, Moves.of_below hbb⟩
end

end Go.Proofs.YtgckcnnnblggbaaGreat
