/- Texts of this claim, one behind the other: Fw1, Fw2, Fw3, Fv4. -/
import Derived.Test.YtlmdpcaikhdenaaGreatSe30
import Derived.Test.YtlmdpcaikhdenaaGreatSe17
import Derived.Test.YtlmdpcaikhdenaaGreatSe32
import Derived.Test.YtlmdpcaikhdenaaGreatSe21
import Derived.Test.YtlmdpcaikhdenaaGreatSe33
set_option linter.unusedSimpArgs false
set_option linter.unusedVariables false
/- The references of wire and record: Number, Frame. -/
namespace Go.Proofs.YtlmdpcaikhdenaaGreat
open Go.RowKit Go.Maps

theorem BytesIn.below {R : Nat → Prop} {w w' : World} {v : Value} {l : List UInt8} (h : BytesIn w R v l) (hb : Below w.heap.size w w') : BytesIn w' R v l := h.kept (O := fun _ => False) (Chg.of_below hb) (fun _ _ h => h) (fun _ h => h)
theorem be_cons (w x : Nat) : be (w + 1) x = UInt8.ofNat (x / 256 ^ w) :: be w x := by
  induction w generalizing x with
  | zero => simp [be]
  | succ w ih =>
    have e : x / 256 ^ (w + 1) = x / 256 / 256 ^ w := by rw [Nat.div_div_eq_div_mul, Nat.pow_succ, Nat.mul_comm]
    rw [e]
    show be (w + 1) (x / 256) ++ [UInt8.ofNat x] = _
    rw [ih (x / 256)]
    rfl
theorem drop_set_at {α : Type} (l : List α) (p : Nat) (v : α) (h : p < l.length) : (l.set p v).drop p = v :: l.drop (p + 1) := by
  rw [List.drop_eq_getElem_cons (by simpa using h), List.getElem_set_self, List.drop_set_of_lt (by omega)]
set_option maxRecDepth 100000 in
set_option maxHeartbeats 8000000 in
theorem rNumber_any {w : World} {k : Nat} (hk : k ≤ 8) {x : Nat} (hx : x < 18446744073709551616) :
    Calls Tryz.prog 158 #[.int .i64 (k : Int), .int .u64 (x : Int)] w fun e w' => ∃ U, e = .returned U ∧ BytesIn w' (fun b => w.heap.size ≤ b) U (be k x) ∧ Below w.heap.size w w' := by
  have hmax : maxLen = 9223372036854775807 := rfl
  obtain ⟨i0, hi, hz0, hz1, hz2⟩ := info_parts Tryz.info5
  obtain ⟨wm, hmr, hmo, hmg⟩ := run_makeSlice_full (P := Tryz.prog) (w := w) w.heap.size 26 5 i0 (.int .u8 0) 1 Tryz.underlying26 hi hz0 hz1 .i64 .i64 k (by omega) (by rw [hz2]; omega) (by omega) (Nat.le_refl _)
  have hbm : Below w.heap.size w wm := (Below.refl _ w).grown hmg (Nat.le_refl _) (by intro k hk; cases hk)
  have hk1 : IntKind.i64.wrap ((k : Int) - 1) = (k : Int) - 1 := Go.IntWalk.i64_in _ (by omega)
  have HM := Lib.hid hmo
  have HX := Lib.hid hx
  clear hmo hmg hx
  go_enter Tryz.func158, Tryz.ntmps158
  go_wp2
  clear hmr hk1
  go_loopw [6, 1] (fun i y wr => ∃ (j : Nat) (i' : Int) (q : Nat), j ≤ k ∧ i = .int .i64 i' ∧ i' = (k : Int) - 1 - (j : Int) ∧ y = .int .u64 (q : Int) ∧ q = x / 256 ^ j ∧ Below w.heap.size w wr ∧ ∃ ys, wr.ownsRow w.heap.size 5 1 (.slice (some ⟨w.heap.size, 0, none⟩) k k) k ys ∧ ys.drop (k - j) = (be j x).map bv) (fun i _ _ => (RowKit.intOf i + 1).toNat)
  case atStart => exact ⟨0, _, x, by omega, rfl, by omega, rfl, by simp, hbm, _, HM.out, by rw [List.drop_of_length_le (by have := HM.out.1; omega)]; rfl⟩
  case round =>
    obtain ⟨j, i', q, hj, rfl, hi', rfl, hq, hb, ys, hys, hyd⟩ := hrel
    have hq64 : q < 18446744073709551616 := by rw [hq]; exact Nat.lt_of_le_of_lt (Nat.div_le_self _ _) HX.out
    by_cases hlt : j < k
    · obtain ⟨p, hp⟩ : ∃ p, k - 1 - j = p := ⟨_, rfl⟩
      obtain rfl : i' = (p : Int) := by omega
      obtain ⟨⟨u0, q0⟩, f0, hset⟩ := ownsRow_set hys (g := w.heap.size) rfl p (by omega) (.int .u8 ((q : Int) % 256))
      have hyl : ys.length = k := by have := hys.1; omega
      have hsd : (ys.set p (.int .u8 ((q : Int) % 256))).drop (k - (j + 1)) = (be (j + 1) x).map bv := by
        rw [show k - (j + 1) = p from by omega, drop_set_at _ _ _ (by omega), show p + 1 = k - j from by omega, hyd, be_cons, List.map_cons, ← hq, bv_ofNat]
      have hqs : q / 256 = x / 256 ^ (j + 1) := by rw [hq, Nat.pow_succ, Nat.div_div_eq_div_mul]
      have hbs : Below w.heap.size w (wr.setCell ⟨w.heap.size, p, none⟩ (.int .u8 ((q : Int) % 256))) := ((Chg.of_below (O := fun b => w.heap.size ≤ b) hb).trans (Chg.set (O := fun b => w.heap.size ≤ b) _ (Nat.le_refl _)) (fun _ h _ => h)).below (fun _ h => h)
      have HS := Lib.hid (And.intro hset (And.intro hsd (And.intro hqs hbs)))
      have j0 : (0 : Int) ≤ (p : Int) := by omega
      have j1 : (p : Int) < (k : Int) := by omega
      have j2 : (0 : Int) ≤ (q : Int) := by omega
      have j3 : (q : Int) < 18446744073709551616 := by omega
      have hp8 : (p : Int) ≤ 7 := by omega
      have HH := Lib.hid (And.intro hj (And.intro hlt (And.intro hp hk)))
      clear hset hsd hqs hbs hys hyd hyl hq hq64 hi' hb hj hlt hp hk
      go_wp2
      go_roundw
      case rel => exact ⟨j + 1, _, q / 256, by have := HH.out; omega, rfl, by have := HH.out; omega, by rw [show ((q / 256 : Nat) : Int) = (q : Int) / 256 from by omega], HS.out.2.2.1, HS.out.2.2.2, _, HS.out.1, HS.out.2.1⟩
      case measure => simp [RowKit.intOf]
    · obtain rfl : j = k := by omega
      have g0 : decide (0 ≤ i') = false := by simp; omega
      rw [Nat.sub_self, List.drop_zero] at hyd
      subst hyd
      clear hi' hq hlt
      go_wp2
      go_ret
      exact ⟨_, rfl, BytesIn.of_owns (base := w.heap.size) (n := j) hys (fun b h _ => h), hb⟩

end Go.Proofs.YtlmdpcaikhdenaaGreat
/- The references of record: Frame. (printed by gen/rframe.py) -/
namespace Go.Proofs.YtlmdpcaikhdenaaGreat
open Go.RowKit Go.Maps

set_option maxRecDepth 100000 in
set_option maxHeartbeats 16000000 in
theorem rFrame_any {w : World} {k : UInt8} {a : Option Addr} {c : Nat} {b : List UInt8} (hrow : RowAt w a (b.map bv)) (hnil : a = none → c = 0) (hb : b.length ≤ 8388608) :
    Calls Tryz.prog 120 #[.agg #[.int .u8 (k.toNat : Int), .slice a b.length c]] w fun e w' => ∃ U, e = .returned U ∧ BytesIn w' (fun x => w.heap.size ≤ x) U (frameL k b) ∧ Below w.heap.size w w' := by
  have hmax : maxLen = 9223372036854775807 := rfl
  obtain ⟨i0, hi, hz0, hz1, hz2⟩ := info_parts Tryz.info5
  obtain ⟨w0, hw0⟩ : ∃ w0, w.alloc (.cells #[.int .u8 (k.toNat : Int), .slice a b.length c] 94) = w0 := ⟨_, rfl⟩
  have hb0 : Below w.heap.size w w0 := by rw [← hw0]; exact below_alloc w _
  have hx0 : w0.heap[w.heap.size]? = some (.cells #[.int .u8 (k.toNat : Int), .slice a b.length c] 94 (0, 0)) := by rw [← hw0]; exact World.alloc_heap_new w _
  have hs0 : w.heap.size < w0.heap.size := heap_lt hx0
  have d0 := cell_of_heap hx0 (i := 0) (v := .int .u8 (k.toNat : Int)) (by rfl)
  have d1 := cell_of_heap hx0 (i := 1) (v := .slice a b.length c) (by rfl)
  have hcv : IntKind.u64.wrap (b.length : Int) = (b.length : Int) := by rw [show IntKind.u64.wrap (b.length : Int) = (b.length : Int) % 18446744073709551616 from by simp [IntKind.wrap, IntKind.bits, IntKind.signed]]; omega
  have hN : ∀ (W : World), Calls Tryz.prog 158 #[.int .i64 4, .int .u64 (b.length : Int)] W fun e w' => ∃ U, e = .returned U ∧ BytesIn w' (fun b => W.heap.size ≤ b) U (be 4 b.length) ∧ Below W.heap.size W w' := fun W => rNumber_any (k := 4) (by omega) (by omega)
  have hl4 : (be 4 b.length).length = 4 := be_len 4 _
  have hr0 := hrow.below hb0
  have HW := Lib.hid hw0
  have HN := Lib.hid hN
  have HL4 := Lib.hid hl4
  clear hw0 hN hl4 hrow
  go_enter Tryz.func120, Tryz.ntmps120
  go_upto_region 1 with (rw [HW.out])
  refine wp_region_held_drew (S := fun (w' : World) => w'.cell? ⟨w.heap.size, 0, none⟩ = some (.int .u8 (k.toNat : Int)) ∧ w'.cell? ⟨w.heap.size, 1, none⟩ = some (.slice a b.length c)) (by kernel_rfl) (⟨d0, d1⟩) (fun hHeld => ?_)
  refine wpAnyH_take (i := 0) (v := ?_) rfl (by kernel_rfl) (by kernel_rfl) (by kernel_rfl) (fun _ _ _ h => h) (Or.inl ⟨by rfl, ?_⟩) hHeld ?_
  rotate_left
  · intro w hSw; (try dsimp only at hSw); go_simp
    all_goals (with_reducible rfl)
  (try simp only [Act.put, List.getElem_toArray, List.getElem_cons_succ, List.getElem_cons_zero, List.setIfInBounds_toArray, List.set_cons_zero, List.set_cons_succ])
  refine wpAnyH_take (i := 1) (v := ?_) rfl (by kernel_rfl) (by kernel_rfl) (by kernel_rfl) (fun _ _ _ h => h) (Or.inl ⟨by rfl, ?_⟩) hHeld ?_
  rotate_left
  · intro w hSw; (try dsimp only at hSw); go_simp
    all_goals (with_reducible rfl)
  (try simp only [Act.put, List.getElem_toArray, List.getElem_cons_succ, List.getElem_cons_zero, List.setIfInBounds_toArray, List.set_cons_zero, List.set_cons_succ])
  refine wpAnyH_take (i := 3) (v := ?_) rfl (by kernel_rfl) (by kernel_rfl) (by kernel_rfl) (fun _ _ _ h => h) (Or.inl ⟨by rfl, ?_⟩) hHeld ?_
  rotate_left
  · intro w hSw; (try dsimp only at hSw); go_simp
    all_goals (with_reducible rfl)
  (try simp only [Act.put, List.getElem_toArray, List.getElem_cons_succ, List.getElem_cons_zero, List.setIfInBounds_toArray, List.set_cons_zero, List.set_cons_succ])
  refine wpAnyH_take (i := 4) (v := ?_) rfl (by kernel_rfl) (by kernel_rfl) (by kernel_rfl) (fun _ _ _ h => h) (Or.inl ⟨by rfl, ?_⟩) hHeld ?_
  rotate_left
  · intro w hSw; (try dsimp only at hSw); go_simp
    all_goals (with_reducible rfl)
  (try simp only [Act.put, List.getElem_toArray, List.getElem_cons_succ, List.getElem_cons_zero, List.setIfInBounds_toArray, List.set_cons_zero, List.set_cons_succ])
  refine wpAnyH_take (i := 5) (v := ?_) rfl (by kernel_rfl) (by kernel_rfl) (by kernel_rfl) (fun _ _ _ h => h) (Or.inl ⟨by rfl, ?_⟩) hHeld ?_
  rotate_left
  · intro w hSw; (try dsimp only at hSw); go_simp
    all_goals (with_reducible rfl)
  (try simp only [Act.put, List.getElem_toArray, List.getElem_cons_succ, List.getElem_cons_zero, List.setIfInBounds_toArray, List.set_cons_zero, List.set_cons_succ])
  refine wpAnyH_take (i := 6) (v := ?_) rfl (by kernel_rfl) (by kernel_rfl) (by kernel_rfl) (fun _ _ _ h => h) (Or.inl ⟨by rfl, ?_⟩) hHeld ?_
  rotate_left
  · intro w hSw; (try dsimp only at hSw); go_simp
    all_goals (with_reducible rfl)
  (try simp only [Act.put, List.getElem_toArray, List.getElem_cons_succ, List.getElem_cons_zero, List.setIfInBounds_toArray, List.set_cons_zero, List.set_cons_succ])
  refine wpAnyH_ready (rs := [2, 7]) (by kernel_rfl) (by simp) ?_
  refine AllReadyH.cons rfl (fun K hK => ?_) (AllReadyH.cons rfl (fun K hK => ?_) AllReadyH.nil)
  go_simp
  have rA : World.ownsRow (w0.alloc (.cells #[.int .u8 (k.toNat : Int)] 5)).drew 0 5 1 (.slice (some ⟨w0.heap.size, 0, none⟩) 1 1) 1 [.int .u8 (k.toNat : Int)] := (ownsRow_lit w0 0 #[.int .u8 (k.toNat : Int)] 5 1 1 (by simp) (by decide) rfl).drew
  obtain ⟨wA, hwA⟩ : ∃ wA, (w0.alloc (.cells #[.int .u8 (k.toNat : Int)] 5)).drew = wA := ⟨_, rfl⟩
  have hbA : Below w0.heap.size w0 wA := by rw [← hwA]; exact (below_alloc w0 _).drew
  rw [hwA] at rA
  rw [hwA]
  have hgA : w0.heap.size < wA.heap.size := (rA.lt w0.heap.size rfl).2
  obtain ⟨g, hg⟩ : ∃ g, w0.heap.size = g := ⟨_, rfl⟩
  have hg0 : w0.heap.size ≤ g := by omega
  rw [hg] at rA
  rw [hg]
  clear hwA
  refine hK.out _ _ (⟨(hbA.cell (p := ⟨w.heap.size, 0, none⟩) hs0).trans d0, (hbA.cell (p := ⟨w.heap.size, 1, none⟩) hs0).trans d1⟩) (fun hHeld => ?_)
  clear hK K
  (try simp only [Act.put, List.getElem_toArray, List.getElem_cons_succ, List.getElem_cons_zero, List.setIfInBounds_toArray, List.set_cons_zero, List.set_cons_succ])
  refine wpAnyH_ready (rs := [7]) (by kernel_rfl) (by simp) ?_
  refine AllReadyH.cons rfl (fun K hK => ?_) AllReadyH.nil
  go_simp
  refine (HN.out wA).mono ?_
  rintro _ wE ⟨U, rfl, hU, hbAE⟩
  have hbE : Below w0.heap.size w0 wE := hbA.trans (hbAE.mono hbA.size)
  have rE := (Chg.of_below (O := fun _ => False) hbAE).row rA (fun _ _ h => h)
  have hgE : g < wE.heap.size := by have := hbAE.size; omega
  clear rA hbAE hbA hgA
  refine hK.out _ _ (⟨(hbE.cell (p := ⟨w.heap.size, 0, none⟩) hs0).trans d0, (hbE.cell (p := ⟨w.heap.size, 1, none⟩) hs0).trans d1⟩) (fun hHeld => ?_)
  clear hK K
  (try simp only [Act.put, List.getElem_toArray, List.getElem_cons_succ, List.getElem_cons_zero, List.setIfInBounds_toArray, List.set_cons_zero, List.set_cons_succ])
  rotate_left
  go_simp
  refine (HN.out w0.drew).mono ?_
  rintro _ wB ⟨U, rfl, hUB, hbB⟩
  replace hbB : Below w0.heap.size w0 wB := ⟨hbB.os, hbB.tape, hbB.output, hbB.size, hbB.block⟩
  refine hK.out _ _ (⟨(hbB.cell (p := ⟨w.heap.size, 0, none⟩) hs0).trans d0, (hbB.cell (p := ⟨w.heap.size, 1, none⟩) hs0).trans d1⟩) (fun hHeld => ?_)
  clear hK K
  (try simp only [Act.put, List.getElem_toArray, List.getElem_cons_succ, List.getElem_cons_zero, List.setIfInBounds_toArray, List.set_cons_zero, List.set_cons_succ])
  refine wpAnyH_ready (rs := [2]) (by kernel_rfl) (by simp) ?_
  refine AllReadyH.cons rfl (fun K hK => ?_) AllReadyH.nil
  go_simp
  have rE : World.ownsRow (wB.alloc (.cells #[.int .u8 (k.toNat : Int)] 5)) 0 5 1 (.slice (some ⟨wB.heap.size, 0, none⟩) 1 1) 1 [.int .u8 (k.toNat : Int)] := ownsRow_lit wB 0 #[.int .u8 (k.toNat : Int)] 5 1 1 (by simp) (by decide) rfl
  obtain ⟨wE, hwE⟩ : ∃ wE, wB.alloc (.cells #[.int .u8 (k.toNat : Int)] 5) = wE := ⟨_, rfl⟩
  have hbBE : Below wB.heap.size wB wE := by rw [← hwE]; exact below_alloc wB _
  have hbE : Below w0.heap.size w0 wE := hbB.trans (hbBE.mono hbB.size)
  rw [hwE] at rE
  rw [hwE]
  have hgE : wB.heap.size < wE.heap.size := (rE.lt wB.heap.size rfl).2
  have hg0 : w0.heap.size ≤ wB.heap.size := hbB.size
  have hU := hUB.below hbBE
  obtain ⟨g, hg⟩ : ∃ g, wB.heap.size = g := ⟨_, rfl⟩
  rw [hg] at rE hgE hg0
  rw [hg]
  clear hwE hUB
  refine hK.out _ _ (⟨(hbE.cell (p := ⟨w.heap.size, 0, none⟩) hs0).trans d0, (hbE.cell (p := ⟨w.heap.size, 1, none⟩) hs0).trans d1⟩) (fun hHeld => ?_)
  clear hK K
  (try simp only [Act.put, List.getElem_toArray, List.getElem_cons_succ, List.getElem_cons_zero, List.setIfInBounds_toArray, List.set_cons_zero, List.set_cons_succ])
  all_goals
    refine wpAnyH_ready (rs := [8]) (by kernel_rfl) (by simp) ?_
    refine AllReadyH.cons rfl (fun K hK => ?_) AllReadyH.nil
    obtain ⟨ua, uc, rfl, _, hun, hur, _, _, _⟩ := hU
    rw [HL4.out]
    refine wp_append_segsrc (.tmp 6) (.tmp 11) 26 rfl 0 5 i0 (.int .u8 0) 1 Tryz.underlying26 hi hz0 hz1 hz2 rfl _ 1 _ rfl rE ua 4 uc ((be 4 b.length).map bv) rfl (by rw [List.length_map, HL4.out]) hun hur (by intro u hu; obtain ⟨_, _, rfl⟩ := List.mem_map.1 hu; rfl) (by omega) (by omega) (Nat.zero_le _) ?_
    intro v8 w8 r8 g8
    obtain ⟨va, vc, rfl, _, _⟩ := RowAt.of_owns r8
    have hb8 : Below w0.heap.size w0 w8 := hbE.trans (g8.1.belowLo6 hbE.size (fun x e => by cases e; exact hg0))
    have ho8 : ∀ x, (Value.slice va (1 + 4) vc).ownBlock = some x → w0.heap.size ≤ x := fun x e => by
      rcases g8.2 with q | ⟨g', q, hge⟩
      · rw [q] at e; cases e; exact hg0
      · rw [q] at e; cases e; have := hbE.size; omega
    refine hK.out _ _ (⟨(hb8.cell (p := ⟨w.heap.size, 0, none⟩) hs0).trans d0, (hb8.cell (p := ⟨w.heap.size, 1, none⟩) hs0).trans d1⟩) (fun hHeld => ?_)
    clear hK K
    (try simp only [Act.put, List.getElem_toArray, List.getElem_cons_succ, List.getElem_cons_zero, List.setIfInBounds_toArray, List.set_cons_zero, List.set_cons_succ])
    refine wpAnyH_take (i := 9) (v := ?_) rfl (by kernel_rfl) (by kernel_rfl) (by kernel_rfl) (fun _ _ _ h => h) (Or.inl ⟨by rfl, ?_⟩) hHeld ?_
    rotate_left
    · intro w hSw; (try dsimp only at hSw); go_simp
      all_goals (with_reducible rfl)
    (try simp only [Act.put, List.getElem_toArray, List.getElem_cons_succ, List.getElem_cons_zero, List.setIfInBounds_toArray, List.set_cons_zero, List.set_cons_succ])
    refine wpAnyH_done (by kernel_rfl) ?_ _
    clear hHeld
    have d18 := (hb8.cell (p := ⟨w.heap.size, 1, none⟩) hs0).trans d1
    have hr8 := hr0.below hb8
    clear rE g8 d0 d1 hg0 hgE hur
    go_wp2_with (first
      | (at_builtin; refine wpList_append_src_at _ rfl (.tmp 13) (.tmp 15) 26 rfl 0 5 i0 (.int .u8 0) 1 Tryz.underlying26 hi hz0 hz1 hz2 rfl _ (1 + 4) _ rfl r8 a b.length c (b.map bv) rfl (by simp) hnil hr8 (by intro u hu; obtain ⟨_, _, rfl⟩ := List.mem_map.1 hu; rfl) (by omega) (by omega) (Nat.zero_le _) ?_; intro v9 w9 r9 g9 at9; obtain ⟨ya, yc, rfl, hy9, _⟩ := RowAt.of_owns r9; have gg9 := Grew.append g9 at9; have hE9 := rends_any (w := w9) (a := ya) (c := yc) (l := headL (k, b)) (by rw [show (headL (k, b)).map bv = [.int .u8 (k.toNat : Int)] ++ (be 4 b.length).map bv ++ b.map bv from by simp [headL, bv]]; exact hy9) (by rw [head_len]; simp only; omega); rw [head_len] at hE9; simp only at hE9; rw [show b.length + 5 = 1 + 4 + b.length from by omega] at hE9)
      | (go_at_call 159; refine hE9.mono ?_; rintro _ wF ⟨V, rfl, hV, hbF⟩; obtain ⟨vb, vbc, rfl, _, vbn, vbr, _, _, _⟩ := hV; have rF := (Chg.of_below (O := fun _ => False) hbF).row r9 (fun _ _ h => h))
      | (at_builtin; refine wpList_append_src_at _ rfl (.tmp 17) (.tmp 19) 26 rfl 0 5 i0 (.int .u8 0) 1 Tryz.underlying26 hi hz0 hz1 hz2 rfl _ (1 + 4 + b.length) _ rfl rF vb 4 vbc ((ends (headL (k, b))).map bv) rfl rfl vbn vbr (by intro u hu; obtain ⟨_, _, rfl⟩ := List.mem_map.1 hu; rfl) (by omega) (by omega) (Nat.zero_le _) ?_; intro vG wG rG gG atG))
    go_ret
    have ggG := (gg9.trans (Grew.below _ hbF)).trans (Grew.append gG atG)
    have hbG : Below w0.heap.size w0 wG := hb8.trans (ggG.1.belowLo6 hb8.size (fun x e => ho8 x e))
    have hbw : Below w.heap.size w wG := hb0.trans (hbG.mono (by omega))
    refine ⟨_, rfl, ?_, hbw⟩
    have hown : ∀ x, vG.ownBlock = some x → w.heap.size ≤ x := fun x e => by
      rcases ggG.2 with q | ⟨g', q, hge⟩
      · rw [q] at e; have := ho8 x e; omega
      · rw [q] at e; cases e; have := hb8.size; omega
    refine BytesIn.of_owns (base := w.heap.size) (n := 1 + 4 + b.length + 4) ?_ (fun b h _ => h)
    rw [show (frameL k b).map bv = [.int .u8 (k.toNat : Int)] ++ (be 4 b.length).map bv ++ b.map bv ++ (ends (headL (k, b))).map bv from by simp [frameL, headL, bv]]
    exact ownsRow_from rG hown

end Go.Proofs.YtlmdpcaikhdenaaGreat
/- The references: Put of records, frame, long, reach. -/
namespace Go.Proofs.YtlmdpcaikhdenaaGreat
open Go.RowKit Go.Maps

set_option maxRecDepth 100000 in
set_option maxHeartbeats 8000000 in
theorem rPut_any {w : World} {a : Option Addr} {c : Nat} {L : List (UInt8 × List UInt8)} (h : RecsAt w a L) (hk : ∀ d ∈ L, d.1 ≠ 0) (hb : ∀ d ∈ L, d.2.length ≤ 8388608) (hl : L.length ≤ 16000000) :
    Calls Tryz.prog 76 #[.slice a L.length c] w fun e w' => ∃ U, e = .returned (.tuple #[U, .int .i64 0]) ∧ BytesIn w' (fun x => w.heap.size ≤ x) U (putL L) ∧ Below w.heap.size w w' := by
  have hmax : maxLen = 9223372036854775807 := rfl
  obtain ⟨i0, hi, hz0, hz1, hz2⟩ := info_parts Tryz.info5
  have HPL := Lib.hid putL_len_le
  have hE : Hid (RecsAt w a L) := Lib.hid h
  have HK := Lib.hid hk
  have HLB := Lib.hid hb
  clear h hk hb
  go_enter Tryz.func76, Tryz.ntmps76
  go_wp2
  go_loopw [5, 4] (fun i o wr => ∃ (k m : Nat) (oa : Option Addr) (oc : Nat), k ≤ L.length ∧ i = .int .i64 k ∧ o = .slice oa m oc ∧ m = (putL (L.take k)).length ∧ wr.ownsRow 0 5 1 (.slice oa m oc) m ((putL (L.take k)).map bv) ∧ (∀ b, (Value.slice oa m oc).ownBlock = some b → w.heap.size ≤ b) ∧ Below w.heap.size w wr) (fun i _ _ => L.length - (RowKit.intOf i).toNat)
  case atStart => exact ⟨0, 0, none, 0, by omega, rfl, rfl, rfl, by simpa [putL] using World.ownsRow_nil w 0 5 1, (fun b hb => by cases hb), Below.refl _ _⟩
  case round =>
    obtain ⟨k, m, oa, oc, hk, rfl, rfl, hm, hr, hro, hbw⟩ := hrel
    by_cases hlt : k < L.length
    · obtain ⟨x, hx⟩ : ∃ x, L[k]? = some x := ⟨L[k]'hlt, by simp⟩
      obtain ⟨b1, o1, rfl, c1⟩ := (hE.out.below hbw) (fun e => by rw [e] at hlt; simp at hlt)
      obtain ⟨u0, ua, uc, u1, r1, un⟩ := c1 k x hx
      have hxm : x ∈ L := List.mem_of_getElem? hx
      have gk : ((x.1.toNat : Int) == 0) = false := by
        rw [beq_eq_false_iff_ne]; intro e; exact HK.out x hxm (UInt8.toNat_inj.1 (by simpa using e))
      have hxl := HLB.out x hxm
      have gl : decide ((8388608 : Int) < (x.2.length : Int)) = false := by simp; omega
      have j0 : (k : Int) < (L.length : Int) := by omega
      have hmb : m ≤ 134217872000000 := by
        rw [hm]
        have := HPL.out (L.take k) (fun d hd => HLB.out d (List.mem_of_mem_take hd))
        rw [List.length_take] at this
        have h2 : min k L.length * 8388617 ≤ 16000000 * 8388617 := Nat.mul_le_mul_right _ (by omega)
        exact Nat.le_trans this (Nat.le_trans h2 (by decide))
      have hts : L.take (k + 1) = L.take k ++ [x] := by rw [List.take_add_one, hx]; rfl
      have hF := rFrame_any (w := wr) (k := x.1) (c := uc) r1 un hxl
      have hfl := frame_len x.1 x.2
      have HTS := Lib.hid hts
      have HM := Lib.hid hm
      have HR := Lib.hid hr
      have HRO := Lib.hid hro
      have HX := Lib.hid hx
      have HFL := Lib.hid hfl
      clear c1 hts hm hr hro hx hfl r1
      go_wp2_with (first
        | (go_at_call 120; refine hF.mono ?_; rintro _ w4 ⟨U, rfl, hU, hb4⟩; obtain ⟨ub, ubc, rfl, _, ubn, ubr, ubR, _, _⟩ := hU; have hr4 := (Chg.of_below (O := fun _ => False) hb4).row HR.out (fun _ _ h => h))
        | (at_builtin; refine wpList_append_src_at _ rfl (.tmp 25) (.tmp 30) 26 rfl 0 5 i0 (.int .u8 0) 1 Tryz.underlying26 hi hz0 hz1 hz2 rfl _ _ _ rfl hr4 ub (frameL x.1 x.2).length ubc ((frameL x.1 x.2).map bv) rfl (by simp) ubn ubr (by intro u hu; obtain ⟨_, _, rfl⟩ := List.mem_map.1 hu; rfl) (by rw [HFL.out]; omega) (by rw [HFL.out]; omega) (Nat.zero_le _) ?_; intro v5 w5 r5 g5 at5; obtain ⟨va, vc, rfl, _, _⟩ := RowAt.of_owns r5; have hg5 := Grew.append g5 at5))
      go_roundw
      case rel =>
        have hgg := (Grew.below (.slice oa m oc) hb4).trans hg5
        have hz := hb4.size
        refine ⟨k + 1, m + (frameL x.1 x.2).length, va, vc, by omega, by go_num, rfl, ?_, ?_, ?_, ?_⟩
        · rw [HTS.out, putL_snoc, List.length_append, ← HM.out]
        · rw [HTS.out, putL_snoc, List.map_append]; exact r5
        · intro b hb
          rcases hgg.2 with e | ⟨g, e, hge⟩
          · exact HRO.out b (e.symm.trans hb)
          · rw [e] at hb; cases hb; have := hbw.size; omega
        · exact hbw.trans (hgg.1.belowLo6 hbw.size (fun b hb => HRO.out b hb))
      case measure => simp [RowKit.intOf]; omega
    · obtain rfl : k = L.length := by omega
      rw [List.take_length] at hm hr
      go_wp2
      go_ret2
      refine ⟨_, rfl, ?_, hbw⟩
      subst hm
      exact BytesIn.of_owns (base := w.heap.size) (ownsRow_from hr hro) (fun b h _ => h)
set_option maxRecDepth 100000 in
set_option maxHeartbeats 4000000 in
theorem rframe17_any {w : World} {n : Nat} (hn : n ≤ 4611686018427387904) {a : Option Addr} {c : Nat} {b : List UInt8} (hrow : RowAt w a (b.map bv)) (hnil : a = none → c = 0) (hb : b.length ≤ 4096) :
    Calls Tryz.prog 41 #[.int .i64 (n : Int), .slice a b.length c] w fun e w' => ∃ U, e = .returned U ∧ BytesIn w' (fun x => w.heap.size ≤ x) U (frameL 101 (oneL n b)) ∧ Below w.heap.size w w' := by
  have hO := rone_any (w := w) (c := c) hn hrow hnil hb
  have HOL := Lib.hid (one_len n b)
  have HB := Lib.hid hb
  clear hn hb hrow hnil
  go_enter Tryz.func41, Tryz.ntmps41
  go_wp2_with (first
    | (go_at_call 75; go_loud (refine hO.mono ?_; rintro _ w1 ⟨U, rfl, hU, hb1⟩; obtain ⟨ta, tc, rfl, _, tn, tr, _, _, _⟩ := hU; obtain ⟨w2, hw2⟩ : ∃ w2, w1.alloc (.cells #[.int .u8 101, .slice ta (oneL n b).length tc] 94) = w2 := ⟨_, rfl⟩; have hb2 : Below w1.heap.size w1 w2 := (by rw [← hw2]; exact below_alloc _ _); have hx2 : w2.heap[w1.heap.size]? = some (.cells #[.int .u8 101, .slice ta (oneL n b).length tc] 94 (0, 0)) := (by rw [← hw2]; exact World.alloc_heap_new _ _); have hA : RecsAt w2 (some ⟨w1.heap.size, 0, none⟩) [((101 : UInt8), oneL n b)] := (fun _ => ⟨w1.heap.size, 0, rfl, (fun i d hd => (by cases i with | zero => (simp at hd; subst hd; exact ⟨cell_of_heap hx2 (i := 0) (by rfl), ta, tc, cell_of_heap hx2 (i := 1) (by rfl), tr.below hb2, tn⟩) | succ i => simp at hd))⟩); have hP : Calls Tryz.prog 76 #[.slice (some ⟨w1.heap.size, 0, none⟩) 1 1] w2 (fun e w' => ∃ U, e = .returned (.tuple #[U, .int .i64 0]) ∧ BytesIn w' (fun x => w2.heap.size ≤ x) U (frameL 101 (oneL n b)) ∧ Below w2.heap.size w2 w') := (by have q := rPut_any (c := 1) hA (by intro d hd; simp at hd; subst hd; exact (show (101 : UInt8) ≠ 0 from by decide)) (by intro d hd; simp at hd; subst hd; simp only; rw [HOL.out]; have := HB.out; omega) (by simp); simpa [putL] using q); have HW2 := Lib.hid hw2; clear hw2 hO hA hx2 tr))
    | rw [HW2.out]
    | (go_at_call 76; refine hP.mono ?_; rintro _ w3 ⟨V, rfl, hV, hb3⟩))
  go_ret
  have s1 := hb1.size
  have s2 := hb2.size
  exact ⟨_, rfl, hV.kept (Chg.refl (fun _ => False) _) (fun _ _ h => h) (fun x hx => by omega), hb1.trans ((hb2.trans (hb3.mono s2)).mono s1)⟩
set_option maxRecDepth 100000 in
set_option maxHeartbeats 4000000 in
theorem rlong_any {w : World} {a : Option Addr} {c : Nat} {L : List (List UInt8)} (h : EntsAt w a L) (hl : L.length ≤ 1000000000) {q : Bool} (hq : decide (∃ e ∈ L, 4096 < e.length) = q) :
    Calls Tryz.prog 40 #[.slice a L.length c] w fun e w' => e = .returned (.bool q) ∧ w = w' := by
  have HQ := Lib.hid hq
  clear hq
  go_enter Tryz.func40, Tryz.ntmps40
  go_wp2
  go_loopw [3] (fun i wr => ∃ k : Nat, k ≤ L.length ∧ i = .int .i64 k ∧ w = wr ∧ Hid (∀ (j : Nat) e, j < k → L[j]? = some e → e.length ≤ 4096)) (fun i _ => L.length - (RowKit.intOf i).toNat)
  case atStart => exact ⟨0, by omega, rfl, rfl, fun j e hj => by omega⟩
  case round =>
    obtain ⟨k, hk, rfl, rfl, HA⟩ := hrel
    by_cases hlt : k < L.length
    · obtain ⟨x, hx⟩ : ∃ x, L[k]? = some x := ⟨L[k]'hlt, by simp⟩
      obtain ⟨b1, o1, rfl, c1⟩ := h (fun e => by rw [e] at hlt; simp at hlt)
      obtain ⟨ua, uc, u1, _⟩ := c1 k x hx
      have j0 : (k : Int) < (L.length : Int) := by omega
      have HX := Lib.hid hx
      clear hx c1
      by_cases h4 : 4096 < x.length
      · have g6 : decide ((4096 : Int) < (x.length : Int)) = true := by simp; omega
        have hE : (∃ e ∈ L, 4096 < e.length) := ⟨x, List.mem_of_getElem? HX.out, h4⟩
        have H3 : Hid (q = true) := Lib.hid (by rw [← HQ.out]; simpa using hE)
        clear hE h4
        go_wp2
        go_ret
        exact ⟨by rw [H3.out]; rfl, rfl⟩
      · have g6 : decide ((4096 : Int) < (x.length : Int)) = false := by simp; omega
        have HS : Hid (∀ (j : Nat) e, j < k + 1 → L[j]? = some e → e.length ≤ 4096) := Lib.hid (fun j e hj he => by
          by_cases e1 : j = k
          · subst e1; rw [HX.out] at he; cases he; omega
          · exact HA.out j e (by omega) he)
        clear h4
        go_wp2
        go_roundw
        case rel => exact ⟨k + 1, by omega, by go_num, by trivial, HS⟩
        case measure => simp [RowKit.intOf]; omega
    · obtain rfl : k = L.length := by omega
      have hE : ¬ (∃ e ∈ L, 4096 < e.length) := fun ⟨e, he, h4⟩ => by
        obtain ⟨j, hj, rfl⟩ := List.getElem_of_mem he
        have h5 := HA.out j _ hj (List.getElem?_eq_getElem hj)
        omega
      have H3 : Hid (q = false) := Lib.hid (by rw [← HQ.out]; simpa using hE)
      clear hE
      go_wp2
      go_ret
      exact ⟨by rw [H3.out]; rfl, rfl⟩
theorem rreach_any {w : World} {f : Int} {n : Nat} (hn : n ≤ 1000000000) {q : Bool} (hq : decide (0 < n ∧ 4611686018427387905 - (n : Int) < f) = q) :
    Calls Tryz.prog 39 #[.int .i64 f, .int .i64 (n : Int)] w fun e w' => e = .returned (.bool q) ∧ w = w' := by
  have hw1 : IntKind.i64.wrap (4611686018427387904 - (n : Int)) = 4611686018427387904 - (n : Int) := Go.IntWalk.i64_in _ (by omega)
  have hw2 : IntKind.i64.wrap (4611686018427387904 - (n : Int) + 1) = 4611686018427387905 - (n : Int) := (Go.IntWalk.i64_in _ (by omega)).trans (by omega)
  by_cases h0 : 0 < n
  · have g1 : decide ((0 : Int) < (n : Int)) = true := by simpa using h0
    have g2 : decide (4611686018427387905 - (n : Int) < f) = q := by rw [← hq]; simp [h0]
    clear hq
    go_enter Tryz.func39, Tryz.ntmps39
    go_wp2
    go_ret
    exact ⟨rfl, rfl⟩
  · obtain rfl : n = 0 := by omega
    obtain rfl : q = false := by rw [← hq]; simp
    have g1 : decide ((0 : Int) < ((0 : Nat) : Int)) = false := by simp
    clear hq hw1 hw2
    go_enter Tryz.func39, Tryz.ntmps39
    go_wp2
    go_ret
    exact ⟨rfl, rfl⟩

end Go.Proofs.YtlmdpcaikhdenaaGreat
/- Segment: Encode. -/
namespace Go.Proofs.YtlmdpcaikhdenaaGreat
open Go.RowKit Go.Maps

/-- what Encode answers -/
def encV (f : Int) (L : List (List UInt8)) : List UInt8 := if fitsE f 0 L = 0 then encL f.toNat L else []
set_option maxRecDepth 100000 in
set_option maxHeartbeats 4000000 in
theorem encode_any {w : World} {f : Int} {a : Option Addr} {c : Nat} {L : List (List UInt8)} (h : EntsAt w a L) (hl : L.length ≤ 1000000000) :
    Calls Tryz.prog 9 #[.int .i64 f, .slice a L.length c] w fun e w' => ∃ U, e = .returned (.tuple #[U, .int .i64 (fitsE f 0 L : Int)]) ∧ BytesIn w' (fun b => w.heap.size ≤ b) U (encV f L) ∧ Below w.heap.size w w' := by
  have hF := fits_any (w := w) (f := f) (many := 0) (c := c) (by omega) h hl
  by_cases hf : fitsE f 0 L = 0
  · obtain ⟨f0, f1, f2, f3, f4⟩ := fits_ok hf
    have he : encV f L = encL f.toNat L := by unfold encV; rw [if_pos hf]
    obtain ⟨n, rfl⟩ := Int.eq_ofNat_of_zero_le f0
    rw [hf] at hF
    rw [he, hf]
    have hFr : Hid (∀ W, Below w.heap.size w W → Calls Tryz.prog 38 #[.int .i64 (n : Int), .slice a L.length c] W fun e w' => ∃ U, e = .returned U ∧ BytesIn w' (fun b => W.heap.size ≤ b) U (encL n L) ∧ Below W.heap.size W w') := Lib.hid (fun W hW => frames_any (h.below hW) (by omega) f4 (by
      by_cases h0 : 0 < L.length
      · have := f2 h0; omega
      · omega))
    have hz : ((0 : Nat) : Int) = 0 := rfl
    clear hf he f0 f1 f2 f3 f4 h
    go_enter Tryz.func9, Tryz.ntmps9
    go_wp2_with (first
      | (go_at_call 37; refine hF.mono ?_; rintro _ w2 ⟨rfl, hb2⟩; have hFr2 := hFr.out w2 hb2)
      | (go_at_call 38; refine hFr2.mono ?_; rintro _ w3 ⟨U, rfl, hU, hb3⟩))
    go_ret2
    exact ⟨_, rfl, hU.kept (Chg.refl (fun _ => False) _) (fun _ _ h => h) (fun b hb => by have := hb2.size; omega), hb2.trans (hb3.mono hb2.size)⟩
  · have he : encV f L = [] := by unfold encV; rw [if_neg hf]
    rw [he]
    obtain ⟨fe, hfe⟩ : ∃ fe, fitsE f 0 L = fe := ⟨_, rfl⟩
    rw [hfe] at hF hf ⊢
    have d2 : ((fe : Int) != 0) = true := by simpa using hf
    have d3 : ((fe : Int) == 0) = false := by simpa using hf
    clear hfe hf he h
    go_enter Tryz.func9, Tryz.ntmps9
    go_wp2_with (go_at_call 37; refine hF.mono ?_; rintro _ w2 ⟨rfl, hb2⟩)
    go_ret2
    exact ⟨_, rfl, BytesIn.nil _ _, hb2⟩

end Go.Proofs.YtlmdpcaikhdenaaGreat
