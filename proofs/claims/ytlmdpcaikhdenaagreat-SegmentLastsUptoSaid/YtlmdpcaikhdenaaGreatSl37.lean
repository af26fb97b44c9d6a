/- Texts of this claim, one behind the other: Fx4. -/
import Derived.Test.YtlmdpcaikhdenaaGreatSl36
set_option linter.unusedSimpArgs false
set_option linter.unusedVariables false
/- SegmentLasts: the walk, where all fits. (printed by gen/lastsw.py) -/
namespace Go.Proofs.YtlmdpcaikhdenaaGreat
open Go.RowKit Go.Maps

set_option maxRecDepth 100000 in
set_option maxHeartbeats 64000000 in
theorem segLasts_fits {w : World} {f names torn : Int} {ha ma ka : Option Addr} {hc mc kc : Nat} {H M : List (List UInt8)} {keep : List Bool} (hH : EntsAt w ha H) (hM : EntsAt w ma M) (hhl : H.length ≤ maxLen) (hml : M.length ≤ maxLen) (hhb : ∀ e ∈ H, e.length ≤ 140737488355328) (hmb : ∀ e ∈ M, e.length ≤ 140737488355328) (hg1 : greatL H = false) (hg2 : greatL M = false) (hk : keep.length ≤ 1000) (hhn : ha = none → hc = 0) (hmn : ma = none → mc = 0) (hkr : RowAt w ka (keep.map Value.bool)) (htorn : torn < 9223372036854775808) (hf : fitsE f 0 (H ++ M) = 0) : Calls Tryz.prog 4 #[.agg #[.int .i64 f, .slice ha H.length hc, .slice ma M.length mc, .int .i64 names, .slice ka keep.length kc, .int .i64 torn]] w fun e w' => e = .returned (.bool true) ∧ Below w.heap.size w w' := by
  obtain ⟨n, rfl⟩ := Int.eq_ofNat_of_zero_le (fits_ok hf).1
  obtain ⟨hE, hn⟩ := fits_ent hf
  obtain ⟨LL, eH, eA, eL, cl, why, sB, sA, sS, sN, sU, sC, sR, heA, hl1, hl2, hLL, hC⟩ := lasts_calls2 hn hE (not_great2 hg1) (not_great2 hg2) htorn hk (names := names)
  have hmax : maxLen = 9223372036854775807 := rfl
  obtain ⟨w0, hw0⟩ : ∃ z, w.alloc (.cells #[.int .i64 (n : Int), .slice ha H.length hc, .slice ma M.length mc, .int .i64 names, .slice ka keep.length kc, .int .i64 torn] 40) = z := ⟨_, rfl⟩
  have hb0 : Below w.heap.size w w0 := by rw [← hw0]; exact below_alloc w _
  have hx0 : w0.heap[w.heap.size]? = some (.cells #[.int .i64 (n : Int), .slice ha H.length hc, .slice ma M.length mc, .int .i64 names, .slice ka keep.length kc, .int .i64 torn] 40 (0, 0)) := by rw [← hw0]; exact World.alloc_heap_new w _
  have hlt0 : w.heap.size < w0.heap.size := heap_lt hx0
  have HD : Hid (∀ W, Below w0.heap.size w0 W → TornAt W w.heap.size (n : Int) ha H.length hc ma M.length mc names ka keep.length kc torn) := Lib.hid (fun W hW => by
    have k := (hW.block _ hlt0).trans hx0
    exact ⟨cell_of_heap k (by rfl), cell_of_heap k (by rfl), cell_of_heap k (by rfl), cell_of_heap k (by rfl), cell_of_heap k (by rfl), cell_of_heap k (by rfl)⟩)
  obtain ⟨d0, d1, d2, d3, d4, d5⟩ := HD.out w0 (Below.refl _ _)
  have HW := Lib.hid hw0
  have HWK := Lib.hid (fun W => works17_any W)
  clear hw0 hx0
  obtain ⟨i0, hi, hz0, hz1, hz2⟩ := info_parts Tryz.info5
  obtain ⟨i1, hi1, hy0, hy1, hy2⟩ := info_parts Tryz.info26
  obtain ⟨hhn5, hh3⟩ := not_great hg1
  obtain ⟨hmn5, hm3⟩ := not_great hg2
  have hG1 := great17_any (c := hc) (hH.below hb0) hhl hhb
  rw [hg1] at hG1
  have hG2 : ∀ W, Below w0.heap.size w0 W → Calls Tryz.prog 6 #[.slice ma M.length mc] W fun e w' => e = .returned (.bool false) ∧ Below W.heap.size W w' := fun W hW => by
    have := great17_any (c := mc) ((hM.below hb0).below hW) hml hmb
    rw [hg2] at this
    exact this
  have HG2 := Lib.hid hG2
  have g1 : decide ((1000 : Int) < (keep.length : Int)) = false := by simp; omega
  have HH := Lib.hid (hH.below hb0)
  have HM := Lib.hid (hM.below hb0)
  have hll : (H ++ M).length = H.length + M.length := List.length_append
  obtain ⟨LA, hLA⟩ : ∃ z, H ++ M = z := ⟨_, rfl⟩
  rw [hLA] at hll
  have HLL := Lib.hid hll
  have HLA := Lib.hid hLA
  obtain ⟨V, hV⟩ : ∃ z, encV (n : Int) LA = z := ⟨_, rfl⟩
  obtain ⟨fe, hfe⟩ : ∃ z, fitsE (n : Int) 0 LA = z := ⟨_, rfl⟩
  have hEN : ∀ (W : World) (a : Option Addr) (c : Nat), EntsAt W a LA → Calls Tryz.prog 9 #[.int .i64 (n : Int), .slice a (H.length + M.length) c] W fun e w' => ∃ U, e = .returned (.tuple #[U, .int .i64 (fe : Int)]) ∧ BytesIn w' (fun b => W.heap.size ≤ b) U V ∧ Below W.heap.size W w' := fun W a c h => by rw [← hV, ← hfe, ← hll]; exact encode_any h (by omega)
  have HEN := Lib.hid hEN
  have hVl : V.length ≤ 16859136 := by rw [← hV]; exact encV_len (n : Int) LA
  have HV0 := Lib.hid (And.intro hV hfe)
  clear hG2 hV hfe hEN hH hM hll hLA hhl hml hhb hmb hg1 hg2 hh3 hm3
  obtain rfl : fe = 0 := by rw [← HV0.out.2, ← HLA.out]; exact hf
  have hVe : V = encL n LA := by rw [← HV0.out.1, ← HLA.out]; unfold encV; rw [if_pos hf, Int.toNat_natCast]
  rw [HLA.out] at hE heA hLL hl2 hC
  have hsn := seg_noughts hE
  rw [← hVe] at hsn heA
  have hDE : ∀ (W : World) (a : Option Addr) (c : Nat), RowAt W a ((V ++ [0, 0, 0]).map bv) → (a = none → c = 0) → V.length + 3 ≤ c → Calls Tryz.prog 14 #[.int .i64 (n : Int), .slice a (V.length + 3) c] W fun e w' => ∃ ea ec wy, e = .returned (.tuple #[.agg #[.int .i64 (n : Int), .slice ea LA.length ec, .int .i64 (V.length : Int), .int .i64 ((V.length : Int) + 3), .int .i64 wy], .int .i64 0]) ∧ EntIn (fun b => W.heap.size ≤ b) w' (.slice ea LA.length ec) LA ∧ Below W.heap.size W w' := fun W a c h1 h2 h3 => by
    have q := decode_any hn h1 h2 (by simpa using h3) (by simp; omega) (f := n)
    have e1 : (V ++ [0, 0, 0]).length = V.length + 3 := by simp
    rw [e1] at q
    refine q.mono fun e w' ⟨es, k1, k2, k3⟩ => ?_
    rw [hsn] at k1 k2
    obtain ⟨ea, ec, rfl⟩ := k2.slice
    refine ⟨ea, ec, ((if LA.length = 4096 then 5 else 171 : Nat) : Int), ?_, k2, k3⟩
    rw [k1, show ((V.length : Int) + 3) = ((V ++ [0, 0, 0]).length : Int) from by rw [e1]; omega]
  have HDE := Lib.hid hDE
  have HC := Lib.hid hC
  have HLL2 := Lib.hid (And.intro hl1 (And.intro hl2 hLL))
  have HEA := Lib.hid heA
  have HKR := Lib.hid (hkr.below hb0)
  have hla9 : LA.length ≤ 4096 := hE.1
  clear hDE hC hsn hVe hE hf hkr hl1 hl2 hLL heA htorn
  go_enter Tryz.func4, Tryz.ntmps4
  go_upto_region 3 with (first
    | rw [HW.out]
    | (go_at_call 6; refine hq2.mono ?_; rintro _ w2 ⟨rfl, hb2⟩; have hb02 := hb1.trans (hb2.mono hb1.size); clear d0 d1 d2 d3 d4 d5; obtain ⟨d0, d1, d2, d3, d4, d5⟩ := HD.out w2 hb02)
    | (go_at_call 6; refine hG1.mono ?_; rintro _ w1 ⟨rfl, hb1⟩; clear d0 d1 d2 d3 d4 d5; obtain ⟨d0, d1, d2, d3, d4, d5⟩ := HD.out w1 hb1; have hq2 := HG2.out w1 hb1))
  clear hG1 hq2 g1
  obtain ⟨hvs, hvr, hvv⟩ := (HH.out.below hb02).vals
  obtain ⟨mvs, mvr, mvv⟩ := (HM.out.below hb02).vals
  have HV := Lib.hid (And.intro hvv.1 hvv.one)
  have MV := Lib.hid (And.intro mvv.1 mvv.one)
  have HVV := Lib.hid (And.intro hvv mvv)
  have HVR := Lib.hid hvr
  have MVR := Lib.hid mvr
  clear hvr hvv mvr mvv
  have HS : Hid (∀ W, Below w2.heap.size w2 W → (fun (w' : World) => w'.cell? ⟨w.heap.size, 0, none⟩ = some (.int .i64 (n : Int)) ∧ w'.cell? ⟨w.heap.size, 1, none⟩ = some (.slice ha H.length hc) ∧ w'.cell? ⟨w.heap.size, 2, none⟩ = some (.slice ma M.length mc)) W) := Lib.hid (fun W hW => by
    obtain ⟨k0, k1, k2, _⟩ := HD.out W (hb02.trans (hW.mono hb02.size))
    exact ⟨k0, k1, k2⟩)
  refine wp_region_held_drew (S := fun (w' : World) => w'.cell? ⟨w.heap.size, 0, none⟩ = some (.int .i64 (n : Int)) ∧ w'.cell? ⟨w.heap.size, 1, none⟩ = some (.slice ha H.length hc) ∧ w'.cell? ⟨w.heap.size, 2, none⟩ = some (.slice ma M.length mc)) (by kernel_rfl) (⟨d0, d1, d2⟩) (fun hHeld => ?_)
  refine wpAnyH_take (i := 0) (v := ?_) rfl (by kernel_rfl) (by kernel_rfl) (by kernel_rfl) (fun _ _ _ h => h) (Or.inl ⟨by rfl, ?_⟩) hHeld ?_
  rotate_left
  · intro w hSw; (try dsimp only at hSw); go_simp
    all_goals (with_reducible rfl)
  (try simp only [Act.put, List.getElem_toArray, List.getElem_cons_succ, List.getElem_cons_zero, List.setIfInBounds_toArray, List.set_cons_zero, List.set_cons_succ])
  refine wpAnyH_take (i := 1) (v := ?_) rfl (by kernel_rfl) (by kernel_rfl) (by kernel_rfl) (fun _ _ _ h => h) (Or.inl ⟨by rfl, ?_⟩) hHeld ?_
  rotate_left
  · intro w hSw; (try dsimp only at hSw); go_simp
    all_goals (with_reducible rfl)
  (try simp only [Act.put, List.getElem_toArray, List.getElem_cons_succ, List.getElem_cons_zero, List.setIfInBounds_toArray, List.set_cons_zero, List.set_cons_succ])
  refine wpAnyH_take (i := 3) (v := ?_) rfl (by kernel_rfl) (by kernel_rfl) (by kernel_rfl) (fun _ _ _ h => h) (Or.inl ⟨by rfl, ?_⟩) hHeld ?_
  rotate_left
  · intro w hSw; (try dsimp only at hSw); go_simp
    all_goals (with_reducible rfl)
  (try simp only [Act.put, List.getElem_toArray, List.getElem_cons_succ, List.getElem_cons_zero, List.setIfInBounds_toArray, List.set_cons_zero, List.set_cons_succ])
  refine wpAnyH_take (i := 4) (v := ?_) rfl (by kernel_rfl) (by kernel_rfl) (by kernel_rfl) (fun _ _ _ h => h) (Or.inl ⟨by rfl, ?_⟩) hHeld ?_
  rotate_left
  · intro w hSw; (try dsimp only at hSw); go_simp
    all_goals (with_reducible rfl)
  (try simp only [Act.put, List.getElem_toArray, List.getElem_cons_succ, List.getElem_cons_zero, List.setIfInBounds_toArray, List.set_cons_zero, List.set_cons_succ])
  refine wpAnyH_take (i := 6) (v := ?_) rfl (by kernel_rfl) (by kernel_rfl) (by kernel_rfl) (fun _ _ _ h => h) (Or.inl ⟨by rfl, ?_⟩) hHeld ?_
  rotate_left
  · intro w hSw; (try dsimp only at hSw); go_simp
    all_goals (with_reducible rfl)
  (try simp only [Act.put, List.getElem_toArray, List.getElem_cons_succ, List.getElem_cons_zero, List.setIfInBounds_toArray, List.set_cons_zero, List.set_cons_succ])
  refine wpAnyH_take (i := 7) (v := ?_) rfl (by kernel_rfl) (by kernel_rfl) (by kernel_rfl) (fun _ _ _ h => h) (Or.inl ⟨by rfl, ?_⟩) hHeld ?_
  rotate_left
  · intro w hSw; (try dsimp only at hSw); go_simp
    all_goals (with_reducible rfl)
  (try simp only [Act.put, List.getElem_toArray, List.getElem_cons_succ, List.getElem_cons_zero, List.setIfInBounds_toArray, List.set_cons_zero, List.set_cons_succ])
  refine wpAnyH_ready (rs := [2]) (by kernel_rfl) (by simp) ?_
  refine AllReadyH.cons rfl (fun K hK => ?_) AllReadyH.nil
  go_simp
  obtain ⟨y5, hw5⟩ : ∃ z, (w2.alloc (.cells #[] 26)).drew = z := ⟨_, rfl⟩
  obtain ⟨g5, hg5⟩ : ∃ z, w2.heap.size = z := ⟨_, rfl⟩
  have x5 : y5.heap[g5]? = some (.cells #[] 26 (0, 0)) := by rw [← hw5, ← hg5]; exact World.alloc_heap_new _ _
  have bs5 : Below w2.heap.size w2 y5 := by rw [← hw5]; exact (below_alloc w2 _).drew
  have b5 : Below w2.heap.size w2 y5 := Below.trans (Below.refl w2.heap.size w2) (bs5.mono (Nat.le_refl w2.heap.size))
  have le5 : w2.heap.size ≤ y5.heap.size := b5.size
  have ge5 : w2.heap.size ≤ g5 := by rw [← hg5]; exact (Nat.le_refl w2.heap.size)
  rw [hw5, hg5]
  clear hw5 hg5 bs5
  refine hK.out _ _ (HS.out _ b5) (fun hHeld => ?_)
  clear hK K
  (try simp only [Act.put, List.getElem_toArray, List.getElem_cons_succ, List.getElem_cons_zero, List.setIfInBounds_toArray, List.set_cons_zero, List.set_cons_succ])
  refine wpAnyH_ready (rs := [5]) (by kernel_rfl) (by simp) ?_
  refine AllReadyH.cons rfl (fun K hK => ?_) AllReadyH.nil
  have q6 := row_of_block x5 (n := 0) rfl (by decide)
  refine wp_append_segsrc (.tmp 41) (.tmp 43) 22 rfl 0 26 i1 (.slice none 0 0) 24 Tryz.underlying22 hi1 hy0 hy1 hy2 rfl _ 0 [] rfl q6 ha H.length hc hvs rfl HV.out.1 hhn (HVR.out.below b5) HV.out.2 (by omega) (by omega) (Nat.zero_le _) ?_
  intro v6 y6 r6 G6
  rw [Nat.zero_add, List.nil_append] at r6
  obtain ⟨a6, c6, rfl, _, _⟩ := RowAt.of_owns r6
  have b6 : Below w2.heap.size w2 y6 := Below.trans b5 (G6.1.belowLo6 le5 (fun x e => by cases e; exact ge5))
  have le6 : w2.heap.size ≤ y6.heap.size := b6.size
  have ho6 : ∀ x, (Value.slice a6 (H.length) c6).ownBlock = some x → w2.heap.size ≤ x := fun x e => by
    rcases G6.2 with q | ⟨g', q, hge⟩
    · rw [q] at e; cases e; exact ge5
    · rw [q] at e; cases e; have := le5; omega
  refine hK.out _ _ (HS.out _ b6) (fun hHeld => ?_)
  clear hK K
  (try simp only [Act.put, List.getElem_toArray, List.getElem_cons_succ, List.getElem_cons_zero, List.setIfInBounds_toArray, List.set_cons_zero, List.set_cons_succ])
  refine wpAnyH_ready (rs := [8]) (by kernel_rfl) (by simp) ?_
  refine AllReadyH.cons rfl (fun K hK => ?_) AllReadyH.nil
  refine wp_append_segsrc (.tmp 44) (.tmp 46) 22 rfl 0 26 i1 (.slice none 0 0) 24 Tryz.underlying22 hi1 hy0 hy1 hy2 rfl _ H.length _ rfl r6 ma M.length mc mvs rfl MV.out.1 hmn (MVR.out.below b6) MV.out.2 (by omega) (by omega) (Nat.zero_le _) ?_
  intro v7 y7 r7 G7
  obtain ⟨a7, c7, rfl, _, _⟩ := RowAt.of_owns r7
  have b7 : Below w2.heap.size w2 y7 := Below.trans b6 (G7.1.belowLo6 le6 (fun x e => ho6 x e))
  have le7 : w2.heap.size ≤ y7.heap.size := b7.size
  have ho7 : ∀ x, (Value.slice a7 (H.length + M.length) c7).ownBlock = some x → w2.heap.size ≤ x := fun x e => by
    rcases G7.2 with q | ⟨g', q, hge⟩
    · rw [q] at e; exact ho6 x e
    · rw [q] at e; cases e; have := le6; omega
  refine hK.out _ _ (HS.out _ b7) (fun hHeld => ?_)
  clear hK K
  (try simp only [Act.put, List.getElem_toArray, List.getElem_cons_succ, List.getElem_cons_zero, List.setIfInBounds_toArray, List.set_cons_zero, List.set_cons_succ])
  refine wpAnyH_ready (rs := [9]) (by kernel_rfl) (by simp) ?_
  refine AllReadyH.cons rfl (fun K hK => ?_) AllReadyH.nil
  obtain ⟨_, _, e8, rr8, _⟩ := RowAt.of_owns r7
  cases e8
  have ae8 : EntsAt y7 a7 LA := by rw [← HLA.out]; exact ((HVV.out.1.below b7).app (HVV.out.2.below b7)).at_ rr8
  go_simp
  refine (HEN.out _ _ _ ae8).mono ?_
  rintro _ w3 ⟨U, rfl, hU, bs8⟩
  have hb23 : Below w2.heap.size w2 w3 := Below.trans b7 (bs8.mono le7)
  refine hK.out _ _ (HS.out _ hb23) (fun hHeld => ?_)
  clear hK K
  (try simp only [Act.put, List.getElem_toArray, List.getElem_cons_succ, List.getElem_cons_zero, List.setIfInBounds_toArray, List.set_cons_zero, List.set_cons_succ])
  refine wpAnyH_take (i := 10) (v := ?_) rfl (by kernel_rfl) (by kernel_rfl) (by kernel_rfl) (fun _ _ _ h => h) (Or.inl ⟨by rfl, ?_⟩) hHeld ?_
  rotate_left
  · intro w hSw; (try dsimp only at hSw); go_simp
    all_goals (with_reducible rfl)
  (try simp only [Act.put, List.getElem_toArray, List.getElem_cons_succ, List.getElem_cons_zero, List.setIfInBounds_toArray, List.set_cons_zero, List.set_cons_succ])
  refine wpAnyH_take (i := 11) (v := ?_) rfl (by kernel_rfl) (by kernel_rfl) (by kernel_rfl) (fun _ _ _ h => h) (Or.inl ⟨by rfl, ?_⟩) hHeld ?_
  rotate_left
  · intro w hSw; (try dsimp only at hSw); go_simp
    all_goals (with_reducible rfl)
  (try simp only [Act.put, List.getElem_toArray, List.getElem_cons_succ, List.getElem_cons_zero, List.setIfInBounds_toArray, List.set_cons_zero, List.set_cons_succ])
  refine wpAnyH_take (i := 12) (v := ?_) rfl (by kernel_rfl) (by kernel_rfl) (by kernel_rfl) (fun _ _ _ h => h) (Or.inl ⟨by rfl, ?_⟩) hHeld ?_
  rotate_left
  · intro w hSw; (try dsimp only at hSw); go_simp
    all_goals (with_reducible rfl)
  (try simp only [Act.put, List.getElem_toArray, List.getElem_cons_succ, List.getElem_cons_zero, List.setIfInBounds_toArray, List.set_cons_zero, List.set_cons_succ])
  refine wpAnyH_take (i := 13) (v := ?_) rfl (by kernel_rfl) (by kernel_rfl) (by kernel_rfl) (fun _ _ _ h => h) (Or.inl ⟨by rfl, ?_⟩) hHeld ?_
  rotate_left
  · intro w hSw; (try dsimp only at hSw); go_simp
    all_goals (with_reducible rfl)
  (try simp only [Act.put, List.getElem_toArray, List.getElem_cons_succ, List.getElem_cons_zero, List.setIfInBounds_toArray, List.set_cons_zero, List.set_cons_succ])
  refine wpAnyH_take (i := 14) (v := ?_) rfl (by kernel_rfl) (by kernel_rfl) (by kernel_rfl) (fun _ _ _ h => h) (Or.inl ⟨by rfl, ?_⟩) hHeld ?_
  rotate_left
  · intro w hSw; (try dsimp only at hSw); go_simp
    all_goals (with_reducible rfl)
  (try simp only [Act.put, List.getElem_toArray, List.getElem_cons_succ, List.getElem_cons_zero, List.setIfInBounds_toArray, List.set_cons_zero, List.set_cons_succ])
  refine wpAnyH_done (by kernel_rfl) ?_ _
  clear hHeld
  obtain ⟨ua, uc, rfl, _, un, ur⟩ := hU.row
  have UR := Lib.hid ur
  have hb03 := hb02.trans (hb23.mono hb02.size)
  clear d0 d1 d2 d3 d4 d5 ur hU
  go_upto_region 6 with (go_at_call 11; refine (num17_any _ _).mono ?_; rintro _ _ ⟨rfl, rfl⟩)
  replace HS : Hid (∀ W, Below w3.heap.size w3 W → (fun (w' : World) => w'.cell? ⟨w.heap.size, 0, none⟩ = some (.int .i64 (n : Int)) ∧ w'.cell? ⟨w.heap.size, 1, none⟩ = some (.slice ha H.length hc) ∧ w'.cell? ⟨w.heap.size, 2, none⟩ = some (.slice ma M.length mc)) W) := Lib.hid (fun W hW => by
    obtain ⟨k0, k1, k2, _⟩ := HD.out W (hb03.trans (hW.mono hb03.size))
    exact ⟨k0, k1, k2⟩)
  go_cut [5, 6] from 60 to 70 (fun s5 s6 wx => ∃ gT ea ec wy, s5 = .pointer (some ⟨gT, 0, none⟩) ∧ s6 = .int .i64 0 ∧ wx.heap[gT]? = some (.cells #[.int .i64 (n : Int), .slice ea LA.length ec, .int .i64 (V.length : Int), .int .i64 ((V.length : Int) + 3), .int .i64 wy] 42 (0, 0)) ∧ EntsAt wx ea LA ∧ Below w3.heap.size w3 wx ∧ w3.heap.size ≤ gT)
  case first =>
    refine wp_region_held_drew (S := fun (w' : World) => w'.cell? ⟨w.heap.size, 0, none⟩ = some (.int .i64 (n : Int)) ∧ w'.cell? ⟨w.heap.size, 1, none⟩ = some (.slice ha H.length hc) ∧ w'.cell? ⟨w.heap.size, 2, none⟩ = some (.slice ma M.length mc)) (by kernel_rfl) (HS.out _ (below_drewN (Below.refl _ w3) 1)) (fun hHeld => ?_)
    refine wpAnyH_take (i := 0) (v := ?_) rfl (by kernel_rfl) (by kernel_rfl) (by kernel_rfl) (fun _ _ _ h => h) (Or.inl ⟨by rfl, ?_⟩) hHeld ?_
    rotate_left
    · intro w hSw; (try dsimp only at hSw); go_simp
      all_goals (with_reducible rfl)
    (try simp only [Act.put, List.getElem_toArray, List.getElem_cons_succ, List.getElem_cons_zero, List.setIfInBounds_toArray, List.set_cons_zero, List.set_cons_succ])
    refine wpAnyH_take (i := 1) (v := ?_) rfl (by kernel_rfl) (by kernel_rfl) (by kernel_rfl) (fun _ _ _ h => h) (Or.inl ⟨by rfl, ?_⟩) hHeld ?_
    rotate_left
    · intro w hSw; (try dsimp only at hSw); go_simp
      all_goals (with_reducible rfl)
    (try simp only [Act.put, List.getElem_toArray, List.getElem_cons_succ, List.getElem_cons_zero, List.setIfInBounds_toArray, List.set_cons_zero, List.set_cons_succ])
    refine wpAnyH_take (i := 3) (v := ?_) rfl (by kernel_rfl) (by kernel_rfl) (by kernel_rfl) (fun _ _ _ h => h) (Or.inl ⟨by rfl, ?_⟩) hHeld ?_
    rotate_left
    · intro w hSw; (try dsimp only at hSw); go_simp
      all_goals (with_reducible rfl)
    (try simp only [Act.put, List.getElem_toArray, List.getElem_cons_succ, List.getElem_cons_zero, List.setIfInBounds_toArray, List.set_cons_zero, List.set_cons_succ])
    refine wpAnyH_ready (rs := [2, 5, 11]) (by kernel_rfl) (by simp) ?_
    refine AllReadyH.cons rfl (fun K hK => ?_) (AllReadyH.cons rfl (fun K hK => ?_) (AllReadyH.cons rfl (fun K hK => ?_) AllReadyH.nil))
    · go_simp
      obtain ⟨y9, hw9⟩ : ∃ z, (w3.alloc (.cells #[] 5)).drew = z := ⟨_, rfl⟩
      obtain ⟨g9, hg9⟩ : ∃ z, w3.heap.size = z := ⟨_, rfl⟩
      have x9 : y9.heap[g9]? = some (.cells #[] 5 (0, 0)) := by rw [← hw9, ← hg9]; exact World.alloc_heap_new _ _
      have bs9 : Below w3.heap.size w3 y9 := by rw [← hw9]; exact (below_alloc w3 _).drew
      have b9 : Below w3.heap.size w3 y9 := Below.trans (Below.refl w3.heap.size w3) (bs9.mono (Nat.le_refl w3.heap.size))
      have le9 : w3.heap.size ≤ y9.heap.size := b9.size
      have ge9 : w3.heap.size ≤ g9 := by rw [← hg9]; exact (Nat.le_refl w3.heap.size)
      rw [hw9, hg9]
      clear hw9 hg9 bs9
      refine hK.out _ _ (HS.out _ b9) (fun hHeld => ?_)
      clear hK K
      (try simp only [Act.put, List.getElem_toArray, List.getElem_cons_succ, List.getElem_cons_zero, List.setIfInBounds_toArray, List.set_cons_zero, List.set_cons_succ])
      refine wpAnyH_ready (rs := [4, 5, 11]) (by kernel_rfl) (by simp) ?_
      refine AllReadyH.cons rfl (fun K hK => ?_) (AllReadyH.cons rfl (fun K hK => ?_) (AllReadyH.cons rfl (fun K hK => ?_) AllReadyH.nil))
      · have q10 := row_of_block x9 (n := 0) rfl (by decide)
        refine wp_append_segsrc (.tmp 63) (.tmp 64) 26 rfl 0 5 i0 (.int .u8 0) 1 Tryz.underlying26 hi hz0 hz1 hz2 rfl _ 0 [] rfl q10 ua V.length uc (V.map bv) rfl (by simp) un (UR.out.below b9) (by intro u hu; obtain ⟨_, _, rfl⟩ := List.mem_map.1 hu; rfl) (by omega) (by omega) (Nat.zero_le _) ?_
        intro v10 y10 r10 G10
        rw [Nat.zero_add, List.nil_append] at r10
        obtain ⟨a10, c10, rfl, _, _⟩ := RowAt.of_owns r10
        have b10 : Below w3.heap.size w3 y10 := Below.trans b9 (G10.1.belowLo6 le9 (fun x e => by cases e; exact ge9))
        have le10 : w3.heap.size ≤ y10.heap.size := b10.size
        have ho10 : ∀ x, (Value.slice a10 (V.length) c10).ownBlock = some x → w3.heap.size ≤ x := fun x e => by
          rcases G10.2 with q | ⟨g', q, hge⟩
          · rw [q] at e; cases e; exact ge9
          · rw [q] at e; cases e; have := le9; omega
        refine hK.out _ _ (HS.out _ b10) (fun hHeld => ?_)
        clear hK K
        (try simp only [Act.put, List.getElem_toArray, List.getElem_cons_succ, List.getElem_cons_zero, List.setIfInBounds_toArray, List.set_cons_zero, List.set_cons_succ])
        refine wpAnyH_ready (rs := [5, 11]) (by kernel_rfl) (by simp) ?_
        refine AllReadyH.cons rfl (fun K hK => ?_) (AllReadyH.cons rfl (fun K hK => ?_) AllReadyH.nil)
        · go_simp
          obtain ⟨y11, hw11⟩ : ∃ z, (y10.alloc (.cells #[.int .u8 0, .int .u8 0, .int .u8 0] 5)) = z := ⟨_, rfl⟩
          obtain ⟨g11, hg11⟩ : ∃ z, y10.heap.size = z := ⟨_, rfl⟩
          have x11 : y11.heap[g11]? = some (.cells #[.int .u8 0, .int .u8 0, .int .u8 0] 5 (0, 0)) := by rw [← hw11, ← hg11]; exact World.alloc_heap_new _ _
          have bs11 : Below y10.heap.size y10 y11 := by rw [← hw11]; exact below_alloc _ _
          have b11 : Below w3.heap.size w3 y11 := Below.trans b10 (bs11.mono le10)
          have le11 : w3.heap.size ≤ y11.heap.size := b11.size
          have ge11 : w3.heap.size ≤ g11 := by rw [← hg11]; exact le10
          have r10_11 := (Chg.of_below (O := fun _ => False) bs11).row r10 (fun _ _ h => h)
          rw [hw11, hg11]
          clear hw11 hg11 bs11
          refine hK.out _ _ (HS.out _ b11) (fun hHeld => ?_)
          clear hK K
          (try simp only [Act.put, List.getElem_toArray, List.getElem_cons_succ, List.getElem_cons_zero, List.setIfInBounds_toArray, List.set_cons_zero, List.set_cons_succ])
          refine wpAnyH_ready (rs := [6, 11]) (by kernel_rfl) (by simp) ?_
          refine AllReadyH.cons rfl (fun K hK => ?_) (AllReadyH.cons rfl (fun K hK => ?_) AllReadyH.nil)
          · have nzy11 : RowAt y11 (some ⟨g11, 0, none⟩) [.int .u8 0, .int .u8 0, .int .u8 0] := by obtain ⟨_, _, e, h, _⟩ := RowAt.of_owns (row_of_block x11 (n := 3) rfl (by decide)); cases e; exact h
            refine wp_append_segsrc (.tmp 65) (.tmp 66) 26 rfl 0 5 i0 (.int .u8 0) 1 Tryz.underlying26 hi hz0 hz1 hz2 rfl _ V.length _ rfl r10_11 (some ⟨g11, 0, none⟩) 3 3 [.int .u8 0, .int .u8 0, .int .u8 0] rfl rfl (fun e => by cases e) (nzy11) (by simp [Value.oneCell']) (by omega) (by omega) (Nat.zero_le _) ?_
            intro v12 y12 r12 G12
            obtain ⟨a12, c12, rfl, _, _⟩ := RowAt.of_owns r12
            have b12 : Below w3.heap.size w3 y12 := Below.trans b11 (G12.1.belowLo6 le11 (fun x e => ho10 x e))
            have le12 : w3.heap.size ≤ y12.heap.size := b12.size
            have ho12 : ∀ x, (Value.slice a12 (V.length + 3) c12).ownBlock = some x → w3.heap.size ≤ x := fun x e => by
              rcases G12.2 with q | ⟨g', q, hge⟩
              · rw [q] at e; exact ho10 x e
              · rw [q] at e; cases e; have := le11; omega
            refine hK.out _ _ (HS.out _ b12) (fun hHeld => ?_)
            clear hK K
            (try simp only [Act.put, List.getElem_toArray, List.getElem_cons_succ, List.getElem_cons_zero, List.setIfInBounds_toArray, List.set_cons_zero, List.set_cons_succ])
            refine wpAnyH_ready (rs := [7, 11]) (by kernel_rfl) (by simp) ?_
            refine AllReadyH.cons rfl (fun K hK => ?_) (AllReadyH.cons rfl (fun K hK => ?_) AllReadyH.nil)
            · obtain ⟨_, _, e13, rr13, _⟩ := RowAt.of_owns r12
              cases e13
              go_simp
              refine (HDE.out _ _ _ (by rw [List.map_append]; exact rr13) (ownsRow_cap0 r12) (ownsRow_len_cap r12)).mono ?_
              rintro _ y13 ⟨ea, ec, wy, rfl, hE13, bs13⟩
              have b13 : Below w3.heap.size w3 y13 := Below.trans b12 (bs13.mono le12)
              have le13 : w3.heap.size ≤ y13.heap.size := b13.size
              have hE13_l := hE13.lt
              refine hK.out _ _ (HS.out _ b13) (fun hHeld => ?_)
              clear hK K
              (try simp only [Act.put, List.getElem_toArray, List.getElem_cons_succ, List.getElem_cons_zero, List.setIfInBounds_toArray, List.set_cons_zero, List.set_cons_succ])
              refine wpAnyH_take (i := 8) (v := ?_) rfl (by kernel_rfl) (by kernel_rfl) (by kernel_rfl) (fun _ _ _ h => h) (Or.inl ⟨by rfl, ?_⟩) hHeld ?_
              rotate_left
              · intro w hSw; (try dsimp only at hSw); go_simp
                all_goals (with_reducible rfl)
              (try simp only [Act.put, List.getElem_toArray, List.getElem_cons_succ, List.getElem_cons_zero, List.setIfInBounds_toArray, List.set_cons_zero, List.set_cons_succ])
              refine wpAnyH_take (i := 9) (v := ?_) rfl (by kernel_rfl) (by kernel_rfl) (by kernel_rfl) (fun _ _ _ h => h) (Or.inl ⟨by rfl, ?_⟩) hHeld ?_
              rotate_left
              · intro w hSw; (try dsimp only at hSw); go_simp
                all_goals (with_reducible rfl)
              (try simp only [Act.put, List.getElem_toArray, List.getElem_cons_succ, List.getElem_cons_zero, List.setIfInBounds_toArray, List.set_cons_zero, List.set_cons_succ])
              refine wpAnyH_take (i := 10) (v := ?_) rfl (by kernel_rfl) (by kernel_rfl) (by kernel_rfl) (fun _ _ _ h => h) (Or.inl ⟨by rfl, ?_⟩) hHeld ?_
              rotate_left
              · intro w hSw; (try dsimp only at hSw); go_simp
                all_goals (with_reducible rfl)
              (try simp only [Act.put, List.getElem_toArray, List.getElem_cons_succ, List.getElem_cons_zero, List.setIfInBounds_toArray, List.set_cons_zero, List.set_cons_succ])
              refine wpAnyH_ready (rs := [11]) (by kernel_rfl) (by simp) ?_
              refine AllReadyH.cons rfl (fun K hK => ?_) AllReadyH.nil
              go_simp
              obtain ⟨y14, hw14⟩ : ∃ z, (y13.alloc (.cells #[.int .i64 0, .slice none 0 0, .int .i64 0, .int .i64 0, .int .i64 0] 42)) = z := ⟨_, rfl⟩
              obtain ⟨g14, hg14⟩ : ∃ z, y13.heap.size = z := ⟨_, rfl⟩
              have x14 : y14.heap[g14]? = some (.cells #[.int .i64 0, .slice none 0 0, .int .i64 0, .int .i64 0, .int .i64 0] 42 (0, 0)) := by rw [← hw14, ← hg14]; exact World.alloc_heap_new _ _
              have bs14 : Below y13.heap.size y13 y14 := by rw [← hw14]; exact below_alloc _ _
              have b14 : Below w3.heap.size w3 y14 := Below.trans b13 (bs14.mono le13)
              have le14 : w3.heap.size ≤ y14.heap.size := b14.size
              have ge14 : w3.heap.size ≤ g14 := by rw [← hg14]; exact le13
              have hE13_l_14 := hE13_l.below bs14
              have dE14 : ∀ x, (y12.heap.size ≤ x ∧ x < y13.heap.size) → ¬ x = g14 := fun x hx => by have := hx.2; omega
              rw [hw14, hg14]
              clear hw14 hg14 bs14
              refine hK.out _ _ (HS.out _ b14) (fun hHeld => ?_)
              clear hK K
              (try simp only [Act.put, List.getElem_toArray, List.getElem_cons_succ, List.getElem_cons_zero, List.setIfInBounds_toArray, List.set_cons_zero, List.set_cons_succ])
              refine wpAnyH_ready (rs := [12]) (by kernel_rfl) (by simp) ?_
              refine AllReadyH.cons rfl (fun K hK => ?_) AllReadyH.nil
              have z15_0 := frozen_of_heap (i := 0) x14
              have z15_1 := frozen_of_heap (i := 1) x14
              have z15_2 := frozen_of_heap (i := 2) x14
              have z15_3 := frozen_of_heap (i := 3) x14
              have z15_4 := frozen_of_heap (i := 4) x14
              have k15_0 := cell_of_heap x14 (i := 0) (v := .int .i64 0) (by rfl)
              have k15_1 := cell_of_heap x14 (i := 1) (v := .slice none 0 0) (by rfl)
              have k15_2 := cell_of_heap x14 (i := 2) (v := .int .i64 0) (by rfl)
              have k15_3 := cell_of_heap x14 (i := 3) (v := .int .i64 0) (by rfl)
              have k15_4 := cell_of_heap x14 (i := 4) (v := .int .i64 0) (by rfl)
              go_simp
              obtain ⟨y15, hw15, x15, hc15⟩ := set5 (x := .int .i64 (n : Int)) (y := .slice ea LA.length ec) (z := .int .i64 (V.length : Int)) (u := .int .i64 ((V.length : Int) + 3)) (v := .int .i64 wy) x14
              rw [hw15]
              have b15 : Below w3.heap.size w3 y15 := Below.trans b14 (hc15.belowLo6 le14 (fun x e => by subst e; exact ge14))
              have hE15 := hE13_l_14.kept (R' := fun _ => True) hc15 (fun x hx e => dE14 x hx e) (fun _ _ => trivial)
              refine hK.out _ _ (HS.out _ b15) (fun hHeld => ?_)
              clear hK K
              (try simp only [Act.put, List.getElem_toArray, List.getElem_cons_succ, List.getElem_cons_zero, List.setIfInBounds_toArray, List.set_cons_zero, List.set_cons_succ])
              refine wpAnyH_take (i := 13) (v := ?_) rfl (by kernel_rfl) (by kernel_rfl) (by kernel_rfl) (fun _ _ _ h => h) (Or.inl ⟨by rfl, ?_⟩) hHeld ?_
              rotate_left
              · intro w hSw; (try dsimp only at hSw); go_simp
                all_goals (with_reducible rfl)
              (try simp only [Act.put, List.getElem_toArray, List.getElem_cons_succ, List.getElem_cons_zero, List.setIfInBounds_toArray, List.set_cons_zero, List.set_cons_succ])
              refine wpAnyH_done (by kernel_rfl) ?_ _
              clear hHeld
              go_wp2_with fail
              go_meet
              case rel =>
                obtain ⟨_, _, eq9, at9⟩ := hE15.at_
                cases eq9
                exact ⟨_, ea, ec, wy, rfl, rfl, x15, at9, b15, ge14⟩
            · go_simp
              obtain ⟨y16, hw16⟩ : ∃ z, (y12.alloc (.cells #[.int .i64 0, .slice none 0 0, .int .i64 0, .int .i64 0, .int .i64 0] 42)) = z := ⟨_, rfl⟩
              obtain ⟨g16, hg16⟩ : ∃ z, y12.heap.size = z := ⟨_, rfl⟩
              have x16 : y16.heap[g16]? = some (.cells #[.int .i64 0, .slice none 0 0, .int .i64 0, .int .i64 0, .int .i64 0] 42 (0, 0)) := by rw [← hw16, ← hg16]; exact World.alloc_heap_new _ _
              have bs16 : Below y12.heap.size y12 y16 := by rw [← hw16]; exact below_alloc _ _
              have b16 : Below w3.heap.size w3 y16 := Below.trans b12 (bs16.mono le12)
              have le16 : w3.heap.size ≤ y16.heap.size := b16.size
              have ge16 : w3.heap.size ≤ g16 := by rw [← hg16]; exact le12
              have r12_16 := (Chg.of_below (O := fun _ => False) bs16).row r12 (fun _ _ h => h)
              rw [hw16, hg16]
              clear hw16 hg16 bs16
              refine hK.out _ _ (HS.out _ b16) (fun hHeld => ?_)
              clear hK K
              (try simp only [Act.put, List.getElem_toArray, List.getElem_cons_succ, List.getElem_cons_zero, List.setIfInBounds_toArray, List.set_cons_zero, List.set_cons_succ])
              refine wpAnyH_ready (rs := [7]) (by kernel_rfl) (by simp) ?_
              refine AllReadyH.cons rfl (fun K hK => ?_) AllReadyH.nil
              obtain ⟨_, _, e17, rr17, _⟩ := RowAt.of_owns r12_16
              cases e17
              go_simp
              refine (HDE.out _ _ _ (by rw [List.map_append]; exact rr17) (ownsRow_cap0 r12_16) (ownsRow_len_cap r12_16)).mono ?_
              rintro _ y17 ⟨ea, ec, wy, rfl, hE17, bs17⟩
              have b17 : Below w3.heap.size w3 y17 := Below.trans b16 (bs17.mono le16)
              have le17 : w3.heap.size ≤ y17.heap.size := b17.size
              have hE17_l := hE17.lt
              have dE17 : ∀ x, (y16.heap.size ≤ x ∧ x < y17.heap.size) → ¬ x = g16 := fun x hx => by have := heap_lt x16; omega
              have x16_17 := (bs17.block _ (heap_lt x16)).trans x16
              refine hK.out _ _ (HS.out _ b17) (fun hHeld => ?_)
              clear hK K
              (try simp only [Act.put, List.getElem_toArray, List.getElem_cons_succ, List.getElem_cons_zero, List.setIfInBounds_toArray, List.set_cons_zero, List.set_cons_succ])
              refine wpAnyH_take (i := 8) (v := ?_) rfl (by kernel_rfl) (by kernel_rfl) (by kernel_rfl) (fun _ _ _ h => h) (Or.inl ⟨by rfl, ?_⟩) hHeld ?_
              rotate_left
              · intro w hSw; (try dsimp only at hSw); go_simp
                all_goals (with_reducible rfl)
              (try simp only [Act.put, List.getElem_toArray, List.getElem_cons_succ, List.getElem_cons_zero, List.setIfInBounds_toArray, List.set_cons_zero, List.set_cons_succ])
              refine wpAnyH_take (i := 9) (v := ?_) rfl (by kernel_rfl) (by kernel_rfl) (by kernel_rfl) (fun _ _ _ h => h) (Or.inl ⟨by rfl, ?_⟩) hHeld ?_
              rotate_left
              · intro w hSw; (try dsimp only at hSw); go_simp
                all_goals (with_reducible rfl)
              (try simp only [Act.put, List.getElem_toArray, List.getElem_cons_succ, List.getElem_cons_zero, List.setIfInBounds_toArray, List.set_cons_zero, List.set_cons_succ])
              refine wpAnyH_take (i := 10) (v := ?_) rfl (by kernel_rfl) (by kernel_rfl) (by kernel_rfl) (fun _ _ _ h => h) (Or.inl ⟨by rfl, ?_⟩) hHeld ?_
              rotate_left
              · intro w hSw; (try dsimp only at hSw); go_simp
                all_goals (with_reducible rfl)
              (try simp only [Act.put, List.getElem_toArray, List.getElem_cons_succ, List.getElem_cons_zero, List.setIfInBounds_toArray, List.set_cons_zero, List.set_cons_succ])
              refine wpAnyH_ready (rs := [12]) (by kernel_rfl) (by simp) ?_
              refine AllReadyH.cons rfl (fun K hK => ?_) AllReadyH.nil
              have z18_0 := frozen_of_heap (i := 0) x16_17
              have z18_1 := frozen_of_heap (i := 1) x16_17
              have z18_2 := frozen_of_heap (i := 2) x16_17
              have z18_3 := frozen_of_heap (i := 3) x16_17
              have z18_4 := frozen_of_heap (i := 4) x16_17
              have k18_0 := cell_of_heap x16_17 (i := 0) (v := .int .i64 0) (by rfl)
              have k18_1 := cell_of_heap x16_17 (i := 1) (v := .slice none 0 0) (by rfl)
              have k18_2 := cell_of_heap x16_17 (i := 2) (v := .int .i64 0) (by rfl)
              have k18_3 := cell_of_heap x16_17 (i := 3) (v := .int .i64 0) (by rfl)
              have k18_4 := cell_of_heap x16_17 (i := 4) (v := .int .i64 0) (by rfl)
              go_simp
              obtain ⟨y18, hw18, x18, hc18⟩ := set5 (x := .int .i64 (n : Int)) (y := .slice ea LA.length ec) (z := .int .i64 (V.length : Int)) (u := .int .i64 ((V.length : Int) + 3)) (v := .int .i64 wy) x16_17
              rw [hw18]
              have b18 : Below w3.heap.size w3 y18 := Below.trans b17 (hc18.belowLo6 le17 (fun x e => by subst e; exact ge16))
              have hE18 := hE17_l.kept (R' := fun _ => True) hc18 (fun x hx e => dE17 x hx e) (fun _ _ => trivial)
              refine hK.out _ _ (HS.out _ b18) (fun hHeld => ?_)
              clear hK K
              (try simp only [Act.put, List.getElem_toArray, List.getElem_cons_succ, List.getElem_cons_zero, List.setIfInBounds_toArray, List.set_cons_zero, List.set_cons_succ])
              refine wpAnyH_take (i := 13) (v := ?_) rfl (by kernel_rfl) (by kernel_rfl) (by kernel_rfl) (fun _ _ _ h => h) (Or.inl ⟨by rfl, ?_⟩) hHeld ?_
              rotate_left
              · intro w hSw; (try dsimp only at hSw); go_simp
                all_goals (with_reducible rfl)
              (try simp only [Act.put, List.getElem_toArray, List.getElem_cons_succ, List.getElem_cons_zero, List.setIfInBounds_toArray, List.set_cons_zero, List.set_cons_succ])
              refine wpAnyH_done (by kernel_rfl) ?_ _
              clear hHeld
              go_wp2_with fail
              go_meet
              case rel =>
                obtain ⟨_, _, eq9, at9⟩ := hE18.at_
                cases eq9
                exact ⟨_, ea, ec, wy, rfl, rfl, x18, at9, b18, ge16⟩
          · go_simp
            obtain ⟨y19, hw19⟩ : ∃ z, (y11.alloc (.cells #[.int .i64 0, .slice none 0 0, .int .i64 0, .int .i64 0, .int .i64 0] 42)) = z := ⟨_, rfl⟩
            obtain ⟨g19, hg19⟩ : ∃ z, y11.heap.size = z := ⟨_, rfl⟩
            have x19 : y19.heap[g19]? = some (.cells #[.int .i64 0, .slice none 0 0, .int .i64 0, .int .i64 0, .int .i64 0] 42 (0, 0)) := by rw [← hw19, ← hg19]; exact World.alloc_heap_new _ _
            have bs19 : Below y11.heap.size y11 y19 := by rw [← hw19]; exact below_alloc _ _
            have b19 : Below w3.heap.size w3 y19 := Below.trans b11 (bs19.mono le11)
            have le19 : w3.heap.size ≤ y19.heap.size := b19.size
            have ge19 : w3.heap.size ≤ g19 := by rw [← hg19]; exact le11
            have n19_Z : ¬ g11 = g19 := by have := heap_lt x11; omega
            have x11_19 := (bs19.block _ (heap_lt x11)).trans x11
            have r10_11_19 := (Chg.of_below (O := fun _ => False) bs19).row r10_11 (fun _ _ h => h)
            rw [hw19, hg19]
            clear hw19 hg19 bs19
            refine hK.out _ _ (HS.out _ b19) (fun hHeld => ?_)
            clear hK K
            (try simp only [Act.put, List.getElem_toArray, List.getElem_cons_succ, List.getElem_cons_zero, List.setIfInBounds_toArray, List.set_cons_zero, List.set_cons_succ])
            refine wpAnyH_ready (rs := [6]) (by kernel_rfl) (by simp) ?_
            refine AllReadyH.cons rfl (fun K hK => ?_) AllReadyH.nil
            have nzy19 : RowAt y19 (some ⟨g11, 0, none⟩) [.int .u8 0, .int .u8 0, .int .u8 0] := by obtain ⟨_, _, e, h, _⟩ := RowAt.of_owns (row_of_block x11_19 (n := 3) rfl (by decide)); cases e; exact h
            refine wp_append_segsrc (.tmp 65) (.tmp 66) 26 rfl 0 5 i0 (.int .u8 0) 1 Tryz.underlying26 hi hz0 hz1 hz2 rfl _ V.length _ rfl r10_11_19 (some ⟨g11, 0, none⟩) 3 3 [.int .u8 0, .int .u8 0, .int .u8 0] rfl rfl (fun e => by cases e) (nzy19) (by simp [Value.oneCell']) (by omega) (by omega) (Nat.zero_le _) ?_
            intro v20 y20 r20 G20
            obtain ⟨a20, c20, rfl, _, _⟩ := RowAt.of_owns r20
            have b20 : Below w3.heap.size w3 y20 := Below.trans b19 (G20.1.belowLo6 le19 (fun x e => ho10 x e))
            have le20 : w3.heap.size ≤ y20.heap.size := b20.size
            have ho20 : ∀ x, (Value.slice a20 (V.length + 3) c20).ownBlock = some x → w3.heap.size ≤ x := fun x e => by
              rcases G20.2 with q | ⟨g', q, hge⟩
              · rw [q] at e; exact ho10 x e
              · rw [q] at e; cases e; have := le19; omega
            have x19_20 := G20.1.obj x19 (fun e => by obtain ⟨_, _, q⟩ := ownsRow_ty r10_11_19 e; rw [x19] at q; simp only [Option.some.injEq, Obj.cells.injEq] at q; exact absurd q.2.1 (by decide))
            refine hK.out _ _ (HS.out _ b20) (fun hHeld => ?_)
            clear hK K
            (try simp only [Act.put, List.getElem_toArray, List.getElem_cons_succ, List.getElem_cons_zero, List.setIfInBounds_toArray, List.set_cons_zero, List.set_cons_succ])
            refine wpAnyH_ready (rs := [7]) (by kernel_rfl) (by simp) ?_
            refine AllReadyH.cons rfl (fun K hK => ?_) AllReadyH.nil
            obtain ⟨_, _, e21, rr21, _⟩ := RowAt.of_owns r20
            cases e21
            go_simp
            refine (HDE.out _ _ _ (by rw [List.map_append]; exact rr21) (ownsRow_cap0 r20) (ownsRow_len_cap r20)).mono ?_
            rintro _ y21 ⟨ea, ec, wy, rfl, hE21, bs21⟩
            have b21 : Below w3.heap.size w3 y21 := Below.trans b20 (bs21.mono le20)
            have le21 : w3.heap.size ≤ y21.heap.size := b21.size
            have hE21_l := hE21.lt
            have dE21 : ∀ x, (y20.heap.size ≤ x ∧ x < y21.heap.size) → ¬ x = g19 := fun x hx => by have := heap_lt x19_20; omega
            have x19_20_21 := (bs21.block _ (heap_lt x19_20)).trans x19_20
            refine hK.out _ _ (HS.out _ b21) (fun hHeld => ?_)
            clear hK K
            (try simp only [Act.put, List.getElem_toArray, List.getElem_cons_succ, List.getElem_cons_zero, List.setIfInBounds_toArray, List.set_cons_zero, List.set_cons_succ])
            refine wpAnyH_take (i := 8) (v := ?_) rfl (by kernel_rfl) (by kernel_rfl) (by kernel_rfl) (fun _ _ _ h => h) (Or.inl ⟨by rfl, ?_⟩) hHeld ?_
            rotate_left
            · intro w hSw; (try dsimp only at hSw); go_simp
              all_goals (with_reducible rfl)
            (try simp only [Act.put, List.getElem_toArray, List.getElem_cons_succ, List.getElem_cons_zero, List.setIfInBounds_toArray, List.set_cons_zero, List.set_cons_succ])
            refine wpAnyH_take (i := 9) (v := ?_) rfl (by kernel_rfl) (by kernel_rfl) (by kernel_rfl) (fun _ _ _ h => h) (Or.inl ⟨by rfl, ?_⟩) hHeld ?_
            rotate_left
            · intro w hSw; (try dsimp only at hSw); go_simp
              all_goals (with_reducible rfl)
            (try simp only [Act.put, List.getElem_toArray, List.getElem_cons_succ, List.getElem_cons_zero, List.setIfInBounds_toArray, List.set_cons_zero, List.set_cons_succ])
            refine wpAnyH_take (i := 10) (v := ?_) rfl (by kernel_rfl) (by kernel_rfl) (by kernel_rfl) (fun _ _ _ h => h) (Or.inl ⟨by rfl, ?_⟩) hHeld ?_
            rotate_left
            · intro w hSw; (try dsimp only at hSw); go_simp
              all_goals (with_reducible rfl)
            (try simp only [Act.put, List.getElem_toArray, List.getElem_cons_succ, List.getElem_cons_zero, List.setIfInBounds_toArray, List.set_cons_zero, List.set_cons_succ])
            refine wpAnyH_ready (rs := [12]) (by kernel_rfl) (by simp) ?_
            refine AllReadyH.cons rfl (fun K hK => ?_) AllReadyH.nil
            have z22_0 := frozen_of_heap (i := 0) x19_20_21
            have z22_1 := frozen_of_heap (i := 1) x19_20_21
            have z22_2 := frozen_of_heap (i := 2) x19_20_21
            have z22_3 := frozen_of_heap (i := 3) x19_20_21
            have z22_4 := frozen_of_heap (i := 4) x19_20_21
            have k22_0 := cell_of_heap x19_20_21 (i := 0) (v := .int .i64 0) (by rfl)
            have k22_1 := cell_of_heap x19_20_21 (i := 1) (v := .slice none 0 0) (by rfl)
            have k22_2 := cell_of_heap x19_20_21 (i := 2) (v := .int .i64 0) (by rfl)
            have k22_3 := cell_of_heap x19_20_21 (i := 3) (v := .int .i64 0) (by rfl)
            have k22_4 := cell_of_heap x19_20_21 (i := 4) (v := .int .i64 0) (by rfl)
            go_simp
            obtain ⟨y22, hw22, x22, hc22⟩ := set5 (x := .int .i64 (n : Int)) (y := .slice ea LA.length ec) (z := .int .i64 (V.length : Int)) (u := .int .i64 ((V.length : Int) + 3)) (v := .int .i64 wy) x19_20_21
            rw [hw22]
            have b22 : Below w3.heap.size w3 y22 := Below.trans b21 (hc22.belowLo6 le21 (fun x e => by subst e; exact ge19))
            have hE22 := hE21_l.kept (R' := fun _ => True) hc22 (fun x hx e => dE21 x hx e) (fun _ _ => trivial)
            refine hK.out _ _ (HS.out _ b22) (fun hHeld => ?_)
            clear hK K
            (try simp only [Act.put, List.getElem_toArray, List.getElem_cons_succ, List.getElem_cons_zero, List.setIfInBounds_toArray, List.set_cons_zero, List.set_cons_succ])
            refine wpAnyH_take (i := 13) (v := ?_) rfl (by kernel_rfl) (by kernel_rfl) (by kernel_rfl) (fun _ _ _ h => h) (Or.inl ⟨by rfl, ?_⟩) hHeld ?_
            rotate_left
            · intro w hSw; (try dsimp only at hSw); go_simp
              all_goals (with_reducible rfl)
            (try simp only [Act.put, List.getElem_toArray, List.getElem_cons_succ, List.getElem_cons_zero, List.setIfInBounds_toArray, List.set_cons_zero, List.set_cons_succ])
            refine wpAnyH_done (by kernel_rfl) ?_ _
            clear hHeld
            go_wp2_with fail
            go_meet
            case rel =>
              obtain ⟨_, _, eq9, at9⟩ := hE22.at_
              cases eq9
              exact ⟨_, ea, ec, wy, rfl, rfl, x22, at9, b22, ge19⟩
        · go_simp
          obtain ⟨y23, hw23⟩ : ∃ z, (y10.alloc (.cells #[.int .i64 0, .slice none 0 0, .int .i64 0, .int .i64 0, .int .i64 0] 42)) = z := ⟨_, rfl⟩
          obtain ⟨g23, hg23⟩ : ∃ z, y10.heap.size = z := ⟨_, rfl⟩
          have x23 : y23.heap[g23]? = some (.cells #[.int .i64 0, .slice none 0 0, .int .i64 0, .int .i64 0, .int .i64 0] 42 (0, 0)) := by rw [← hw23, ← hg23]; exact World.alloc_heap_new _ _
          have bs23 : Below y10.heap.size y10 y23 := by rw [← hw23]; exact below_alloc _ _
          have b23 : Below w3.heap.size w3 y23 := Below.trans b10 (bs23.mono le10)
          have le23 : w3.heap.size ≤ y23.heap.size := b23.size
          have ge23 : w3.heap.size ≤ g23 := by rw [← hg23]; exact le10
          have r10_23 := (Chg.of_below (O := fun _ => False) bs23).row r10 (fun _ _ h => h)
          rw [hw23, hg23]
          clear hw23 hg23 bs23
          refine hK.out _ _ (HS.out _ b23) (fun hHeld => ?_)
          clear hK K
          (try simp only [Act.put, List.getElem_toArray, List.getElem_cons_succ, List.getElem_cons_zero, List.setIfInBounds_toArray, List.set_cons_zero, List.set_cons_succ])
          refine wpAnyH_ready (rs := [5]) (by kernel_rfl) (by simp) ?_
          refine AllReadyH.cons rfl (fun K hK => ?_) AllReadyH.nil
          go_simp
          obtain ⟨y24, hw24⟩ : ∃ z, (y23.alloc (.cells #[.int .u8 0, .int .u8 0, .int .u8 0] 5)) = z := ⟨_, rfl⟩
          obtain ⟨g24, hg24⟩ : ∃ z, y23.heap.size = z := ⟨_, rfl⟩
          have x24 : y24.heap[g24]? = some (.cells #[.int .u8 0, .int .u8 0, .int .u8 0] 5 (0, 0)) := by rw [← hw24, ← hg24]; exact World.alloc_heap_new _ _
          have bs24 : Below y23.heap.size y23 y24 := by rw [← hw24]; exact below_alloc _ _
          have b24 : Below w3.heap.size w3 y24 := Below.trans b23 (bs24.mono le23)
          have le24 : w3.heap.size ≤ y24.heap.size := b24.size
          have ge24 : w3.heap.size ≤ g24 := by rw [← hg24]; exact le23
          have n24_T : ¬ g23 = g24 := by have := heap_lt x23; omega
          have x23_24 := (bs24.block _ (heap_lt x23)).trans x23
          have r10_23_24 := (Chg.of_below (O := fun _ => False) bs24).row r10_23 (fun _ _ h => h)
          rw [hw24, hg24]
          clear hw24 hg24 bs24
          refine hK.out _ _ (HS.out _ b24) (fun hHeld => ?_)
          clear hK K
          (try simp only [Act.put, List.getElem_toArray, List.getElem_cons_succ, List.getElem_cons_zero, List.setIfInBounds_toArray, List.set_cons_zero, List.set_cons_succ])
          refine wpAnyH_ready (rs := [6]) (by kernel_rfl) (by simp) ?_
          refine AllReadyH.cons rfl (fun K hK => ?_) AllReadyH.nil
          have nzy24 : RowAt y24 (some ⟨g24, 0, none⟩) [.int .u8 0, .int .u8 0, .int .u8 0] := by obtain ⟨_, _, e, h, _⟩ := RowAt.of_owns (row_of_block x24 (n := 3) rfl (by decide)); cases e; exact h
          refine wp_append_segsrc (.tmp 65) (.tmp 66) 26 rfl 0 5 i0 (.int .u8 0) 1 Tryz.underlying26 hi hz0 hz1 hz2 rfl _ V.length _ rfl r10_23_24 (some ⟨g24, 0, none⟩) 3 3 [.int .u8 0, .int .u8 0, .int .u8 0] rfl rfl (fun e => by cases e) (nzy24) (by simp [Value.oneCell']) (by omega) (by omega) (Nat.zero_le _) ?_
          intro v25 y25 r25 G25
          obtain ⟨a25, c25, rfl, _, _⟩ := RowAt.of_owns r25
          have b25 : Below w3.heap.size w3 y25 := Below.trans b24 (G25.1.belowLo6 le24 (fun x e => ho10 x e))
          have le25 : w3.heap.size ≤ y25.heap.size := b25.size
          have ho25 : ∀ x, (Value.slice a25 (V.length + 3) c25).ownBlock = some x → w3.heap.size ≤ x := fun x e => by
            rcases G25.2 with q | ⟨g', q, hge⟩
            · rw [q] at e; exact ho10 x e
            · rw [q] at e; cases e; have := le24; omega
          have x23_24_25 := G25.1.obj x23_24 (fun e => by obtain ⟨_, _, q⟩ := ownsRow_ty r10_23_24 e; rw [x23_24] at q; simp only [Option.some.injEq, Obj.cells.injEq] at q; exact absurd q.2.1 (by decide))
          refine hK.out _ _ (HS.out _ b25) (fun hHeld => ?_)
          clear hK K
          (try simp only [Act.put, List.getElem_toArray, List.getElem_cons_succ, List.getElem_cons_zero, List.setIfInBounds_toArray, List.set_cons_zero, List.set_cons_succ])
          refine wpAnyH_ready (rs := [7]) (by kernel_rfl) (by simp) ?_
          refine AllReadyH.cons rfl (fun K hK => ?_) AllReadyH.nil
          obtain ⟨_, _, e26, rr26, _⟩ := RowAt.of_owns r25
          cases e26
          go_simp
          refine (HDE.out _ _ _ (by rw [List.map_append]; exact rr26) (ownsRow_cap0 r25) (ownsRow_len_cap r25)).mono ?_
          rintro _ y26 ⟨ea, ec, wy, rfl, hE26, bs26⟩
          have b26 : Below w3.heap.size w3 y26 := Below.trans b25 (bs26.mono le25)
          have le26 : w3.heap.size ≤ y26.heap.size := b26.size
          have hE26_l := hE26.lt
          have dE26 : ∀ x, (y25.heap.size ≤ x ∧ x < y26.heap.size) → ¬ x = g23 := fun x hx => by have := heap_lt x23_24_25; omega
          have x23_24_25_26 := (bs26.block _ (heap_lt x23_24_25)).trans x23_24_25
          refine hK.out _ _ (HS.out _ b26) (fun hHeld => ?_)
          clear hK K
          (try simp only [Act.put, List.getElem_toArray, List.getElem_cons_succ, List.getElem_cons_zero, List.setIfInBounds_toArray, List.set_cons_zero, List.set_cons_succ])
          refine wpAnyH_take (i := 8) (v := ?_) rfl (by kernel_rfl) (by kernel_rfl) (by kernel_rfl) (fun _ _ _ h => h) (Or.inl ⟨by rfl, ?_⟩) hHeld ?_
          rotate_left
          · intro w hSw; (try dsimp only at hSw); go_simp
            all_goals (with_reducible rfl)
          (try simp only [Act.put, List.getElem_toArray, List.getElem_cons_succ, List.getElem_cons_zero, List.setIfInBounds_toArray, List.set_cons_zero, List.set_cons_succ])
          refine wpAnyH_take (i := 9) (v := ?_) rfl (by kernel_rfl) (by kernel_rfl) (by kernel_rfl) (fun _ _ _ h => h) (Or.inl ⟨by rfl, ?_⟩) hHeld ?_
          rotate_left
          · intro w hSw; (try dsimp only at hSw); go_simp
            all_goals (with_reducible rfl)
          (try simp only [Act.put, List.getElem_toArray, List.getElem_cons_succ, List.getElem_cons_zero, List.setIfInBounds_toArray, List.set_cons_zero, List.set_cons_succ])
          refine wpAnyH_take (i := 10) (v := ?_) rfl (by kernel_rfl) (by kernel_rfl) (by kernel_rfl) (fun _ _ _ h => h) (Or.inl ⟨by rfl, ?_⟩) hHeld ?_
          rotate_left
          · intro w hSw; (try dsimp only at hSw); go_simp
            all_goals (with_reducible rfl)
          (try simp only [Act.put, List.getElem_toArray, List.getElem_cons_succ, List.getElem_cons_zero, List.setIfInBounds_toArray, List.set_cons_zero, List.set_cons_succ])
          refine wpAnyH_ready (rs := [12]) (by kernel_rfl) (by simp) ?_
          refine AllReadyH.cons rfl (fun K hK => ?_) AllReadyH.nil
          have z27_0 := frozen_of_heap (i := 0) x23_24_25_26
          have z27_1 := frozen_of_heap (i := 1) x23_24_25_26
          have z27_2 := frozen_of_heap (i := 2) x23_24_25_26
          have z27_3 := frozen_of_heap (i := 3) x23_24_25_26
          have z27_4 := frozen_of_heap (i := 4) x23_24_25_26
          have k27_0 := cell_of_heap x23_24_25_26 (i := 0) (v := .int .i64 0) (by rfl)
          have k27_1 := cell_of_heap x23_24_25_26 (i := 1) (v := .slice none 0 0) (by rfl)
          have k27_2 := cell_of_heap x23_24_25_26 (i := 2) (v := .int .i64 0) (by rfl)
          have k27_3 := cell_of_heap x23_24_25_26 (i := 3) (v := .int .i64 0) (by rfl)
          have k27_4 := cell_of_heap x23_24_25_26 (i := 4) (v := .int .i64 0) (by rfl)
          go_simp
          obtain ⟨y27, hw27, x27, hc27⟩ := set5 (x := .int .i64 (n : Int)) (y := .slice ea LA.length ec) (z := .int .i64 (V.length : Int)) (u := .int .i64 ((V.length : Int) + 3)) (v := .int .i64 wy) x23_24_25_26
          rw [hw27]
          have b27 : Below w3.heap.size w3 y27 := Below.trans b26 (hc27.belowLo6 le26 (fun x e => by subst e; exact ge23))
          have hE27 := hE26_l.kept (R' := fun _ => True) hc27 (fun x hx e => dE26 x hx e) (fun _ _ => trivial)
          refine hK.out _ _ (HS.out _ b27) (fun hHeld => ?_)
          clear hK K
          (try simp only [Act.put, List.getElem_toArray, List.getElem_cons_succ, List.getElem_cons_zero, List.setIfInBounds_toArray, List.set_cons_zero, List.set_cons_succ])
          refine wpAnyH_take (i := 13) (v := ?_) rfl (by kernel_rfl) (by kernel_rfl) (by kernel_rfl) (fun _ _ _ h => h) (Or.inl ⟨by rfl, ?_⟩) hHeld ?_
          rotate_left
          · intro w hSw; (try dsimp only at hSw); go_simp
            all_goals (with_reducible rfl)
          (try simp only [Act.put, List.getElem_toArray, List.getElem_cons_succ, List.getElem_cons_zero, List.setIfInBounds_toArray, List.set_cons_zero, List.set_cons_succ])
          refine wpAnyH_done (by kernel_rfl) ?_ _
          clear hHeld
          go_wp2_with fail
          go_meet
          case rel =>
            obtain ⟨_, _, eq9, at9⟩ := hE27.at_
            cases eq9
            exact ⟨_, ea, ec, wy, rfl, rfl, x27, at9, b27, ge23⟩
      · go_simp
        obtain ⟨y28, hw28⟩ : ∃ z, (y9.alloc (.cells #[.int .u8 0, .int .u8 0, .int .u8 0] 5)) = z := ⟨_, rfl⟩
        obtain ⟨g28, hg28⟩ : ∃ z, y9.heap.size = z := ⟨_, rfl⟩
        have x28 : y28.heap[g28]? = some (.cells #[.int .u8 0, .int .u8 0, .int .u8 0] 5 (0, 0)) := by rw [← hw28, ← hg28]; exact World.alloc_heap_new _ _
        have bs28 : Below y9.heap.size y9 y28 := by rw [← hw28]; exact below_alloc _ _
        have b28 : Below w3.heap.size w3 y28 := Below.trans b9 (bs28.mono le9)
        have le28 : w3.heap.size ≤ y28.heap.size := b28.size
        have ge28 : w3.heap.size ≤ g28 := by rw [← hg28]; exact le9
        have n28_L : ¬ g9 = g28 := by have := heap_lt x9; omega
        have x9_28 := (bs28.block _ (heap_lt x9)).trans x9
        rw [hw28, hg28]
        clear hw28 hg28 bs28
        refine hK.out _ _ (HS.out _ b28) (fun hHeld => ?_)
        clear hK K
        (try simp only [Act.put, List.getElem_toArray, List.getElem_cons_succ, List.getElem_cons_zero, List.setIfInBounds_toArray, List.set_cons_zero, List.set_cons_succ])
        refine wpAnyH_ready (rs := [4, 11]) (by kernel_rfl) (by simp) ?_
        refine AllReadyH.cons rfl (fun K hK => ?_) (AllReadyH.cons rfl (fun K hK => ?_) AllReadyH.nil)
        · have q29 := row_of_block x9_28 (n := 0) rfl (by decide)
          refine wp_append_segsrc (.tmp 63) (.tmp 64) 26 rfl 0 5 i0 (.int .u8 0) 1 Tryz.underlying26 hi hz0 hz1 hz2 rfl _ 0 [] rfl q29 ua V.length uc (V.map bv) rfl (by simp) un (UR.out.below b28) (by intro u hu; obtain ⟨_, _, rfl⟩ := List.mem_map.1 hu; rfl) (by omega) (by omega) (Nat.zero_le _) ?_
          intro v29 y29 r29 G29
          rw [Nat.zero_add, List.nil_append] at r29
          obtain ⟨a29, c29, rfl, _, _⟩ := RowAt.of_owns r29
          have b29 : Below w3.heap.size w3 y29 := Below.trans b28 (G29.1.belowLo6 le28 (fun x e => by cases e; exact ge9))
          have le29 : w3.heap.size ≤ y29.heap.size := b29.size
          have ho29 : ∀ x, (Value.slice a29 (V.length) c29).ownBlock = some x → w3.heap.size ≤ x := fun x e => by
            rcases G29.2 with q | ⟨g', q, hge⟩
            · rw [q] at e; cases e; exact ge9
            · rw [q] at e; cases e; have := le28; omega
          have x28_29 := G29.1.obj x28 (fun e => absurd (Option.some.inj (show some g9 = some g28 from e)) n28_L)
          refine hK.out _ _ (HS.out _ b29) (fun hHeld => ?_)
          clear hK K
          (try simp only [Act.put, List.getElem_toArray, List.getElem_cons_succ, List.getElem_cons_zero, List.setIfInBounds_toArray, List.set_cons_zero, List.set_cons_succ])
          refine wpAnyH_ready (rs := [6, 11]) (by kernel_rfl) (by simp) ?_
          refine AllReadyH.cons rfl (fun K hK => ?_) (AllReadyH.cons rfl (fun K hK => ?_) AllReadyH.nil)
          · have nzy29 : RowAt y29 (some ⟨g28, 0, none⟩) [.int .u8 0, .int .u8 0, .int .u8 0] := by obtain ⟨_, _, e, h, _⟩ := RowAt.of_owns (row_of_block x28_29 (n := 3) rfl (by decide)); cases e; exact h
            refine wp_append_segsrc (.tmp 65) (.tmp 66) 26 rfl 0 5 i0 (.int .u8 0) 1 Tryz.underlying26 hi hz0 hz1 hz2 rfl _ V.length _ rfl r29 (some ⟨g28, 0, none⟩) 3 3 [.int .u8 0, .int .u8 0, .int .u8 0] rfl rfl (fun e => by cases e) (nzy29) (by simp [Value.oneCell']) (by omega) (by omega) (Nat.zero_le _) ?_
            intro v30 y30 r30 G30
            obtain ⟨a30, c30, rfl, _, _⟩ := RowAt.of_owns r30
            have b30 : Below w3.heap.size w3 y30 := Below.trans b29 (G30.1.belowLo6 le29 (fun x e => ho29 x e))
            have le30 : w3.heap.size ≤ y30.heap.size := b30.size
            have ho30 : ∀ x, (Value.slice a30 (V.length + 3) c30).ownBlock = some x → w3.heap.size ≤ x := fun x e => by
              rcases G30.2 with q | ⟨g', q, hge⟩
              · rw [q] at e; exact ho29 x e
              · rw [q] at e; cases e; have := le29; omega
            refine hK.out _ _ (HS.out _ b30) (fun hHeld => ?_)
            clear hK K
            (try simp only [Act.put, List.getElem_toArray, List.getElem_cons_succ, List.getElem_cons_zero, List.setIfInBounds_toArray, List.set_cons_zero, List.set_cons_succ])
            refine wpAnyH_ready (rs := [7, 11]) (by kernel_rfl) (by simp) ?_
            refine AllReadyH.cons rfl (fun K hK => ?_) (AllReadyH.cons rfl (fun K hK => ?_) AllReadyH.nil)
            · obtain ⟨_, _, e31, rr31, _⟩ := RowAt.of_owns r30
              cases e31
              go_simp
              refine (HDE.out _ _ _ (by rw [List.map_append]; exact rr31) (ownsRow_cap0 r30) (ownsRow_len_cap r30)).mono ?_
              rintro _ y31 ⟨ea, ec, wy, rfl, hE31, bs31⟩
              have b31 : Below w3.heap.size w3 y31 := Below.trans b30 (bs31.mono le30)
              have le31 : w3.heap.size ≤ y31.heap.size := b31.size
              have hE31_l := hE31.lt
              refine hK.out _ _ (HS.out _ b31) (fun hHeld => ?_)
              clear hK K
              (try simp only [Act.put, List.getElem_toArray, List.getElem_cons_succ, List.getElem_cons_zero, List.setIfInBounds_toArray, List.set_cons_zero, List.set_cons_succ])
              refine wpAnyH_take (i := 8) (v := ?_) rfl (by kernel_rfl) (by kernel_rfl) (by kernel_rfl) (fun _ _ _ h => h) (Or.inl ⟨by rfl, ?_⟩) hHeld ?_
              rotate_left
              · intro w hSw; (try dsimp only at hSw); go_simp
                all_goals (with_reducible rfl)
              (try simp only [Act.put, List.getElem_toArray, List.getElem_cons_succ, List.getElem_cons_zero, List.setIfInBounds_toArray, List.set_cons_zero, List.set_cons_succ])
              refine wpAnyH_take (i := 9) (v := ?_) rfl (by kernel_rfl) (by kernel_rfl) (by kernel_rfl) (fun _ _ _ h => h) (Or.inl ⟨by rfl, ?_⟩) hHeld ?_
              rotate_left
              · intro w hSw; (try dsimp only at hSw); go_simp
                all_goals (with_reducible rfl)
              (try simp only [Act.put, List.getElem_toArray, List.getElem_cons_succ, List.getElem_cons_zero, List.setIfInBounds_toArray, List.set_cons_zero, List.set_cons_succ])
              refine wpAnyH_take (i := 10) (v := ?_) rfl (by kernel_rfl) (by kernel_rfl) (by kernel_rfl) (fun _ _ _ h => h) (Or.inl ⟨by rfl, ?_⟩) hHeld ?_
              rotate_left
              · intro w hSw; (try dsimp only at hSw); go_simp
                all_goals (with_reducible rfl)
              (try simp only [Act.put, List.getElem_toArray, List.getElem_cons_succ, List.getElem_cons_zero, List.setIfInBounds_toArray, List.set_cons_zero, List.set_cons_succ])
              refine wpAnyH_ready (rs := [11]) (by kernel_rfl) (by simp) ?_
              refine AllReadyH.cons rfl (fun K hK => ?_) AllReadyH.nil
              go_simp
              obtain ⟨y32, hw32⟩ : ∃ z, (y31.alloc (.cells #[.int .i64 0, .slice none 0 0, .int .i64 0, .int .i64 0, .int .i64 0] 42)) = z := ⟨_, rfl⟩
              obtain ⟨g32, hg32⟩ : ∃ z, y31.heap.size = z := ⟨_, rfl⟩
              have x32 : y32.heap[g32]? = some (.cells #[.int .i64 0, .slice none 0 0, .int .i64 0, .int .i64 0, .int .i64 0] 42 (0, 0)) := by rw [← hw32, ← hg32]; exact World.alloc_heap_new _ _
              have bs32 : Below y31.heap.size y31 y32 := by rw [← hw32]; exact below_alloc _ _
              have b32 : Below w3.heap.size w3 y32 := Below.trans b31 (bs32.mono le31)
              have le32 : w3.heap.size ≤ y32.heap.size := b32.size
              have ge32 : w3.heap.size ≤ g32 := by rw [← hg32]; exact le31
              have hE31_l_32 := hE31_l.below bs32
              have dE32 : ∀ x, (y30.heap.size ≤ x ∧ x < y31.heap.size) → ¬ x = g32 := fun x hx => by have := hx.2; omega
              rw [hw32, hg32]
              clear hw32 hg32 bs32
              refine hK.out _ _ (HS.out _ b32) (fun hHeld => ?_)
              clear hK K
              (try simp only [Act.put, List.getElem_toArray, List.getElem_cons_succ, List.getElem_cons_zero, List.setIfInBounds_toArray, List.set_cons_zero, List.set_cons_succ])
              refine wpAnyH_ready (rs := [12]) (by kernel_rfl) (by simp) ?_
              refine AllReadyH.cons rfl (fun K hK => ?_) AllReadyH.nil
              have z33_0 := frozen_of_heap (i := 0) x32
              have z33_1 := frozen_of_heap (i := 1) x32
              have z33_2 := frozen_of_heap (i := 2) x32
              have z33_3 := frozen_of_heap (i := 3) x32
              have z33_4 := frozen_of_heap (i := 4) x32
              have k33_0 := cell_of_heap x32 (i := 0) (v := .int .i64 0) (by rfl)
              have k33_1 := cell_of_heap x32 (i := 1) (v := .slice none 0 0) (by rfl)
              have k33_2 := cell_of_heap x32 (i := 2) (v := .int .i64 0) (by rfl)
              have k33_3 := cell_of_heap x32 (i := 3) (v := .int .i64 0) (by rfl)
              have k33_4 := cell_of_heap x32 (i := 4) (v := .int .i64 0) (by rfl)
              go_simp
              obtain ⟨y33, hw33, x33, hc33⟩ := set5 (x := .int .i64 (n : Int)) (y := .slice ea LA.length ec) (z := .int .i64 (V.length : Int)) (u := .int .i64 ((V.length : Int) + 3)) (v := .int .i64 wy) x32
              rw [hw33]
              have b33 : Below w3.heap.size w3 y33 := Below.trans b32 (hc33.belowLo6 le32 (fun x e => by subst e; exact ge32))
              have hE33 := hE31_l_32.kept (R' := fun _ => True) hc33 (fun x hx e => dE32 x hx e) (fun _ _ => trivial)
              refine hK.out _ _ (HS.out _ b33) (fun hHeld => ?_)
              clear hK K
              (try simp only [Act.put, List.getElem_toArray, List.getElem_cons_succ, List.getElem_cons_zero, List.setIfInBounds_toArray, List.set_cons_zero, List.set_cons_succ])
              refine wpAnyH_take (i := 13) (v := ?_) rfl (by kernel_rfl) (by kernel_rfl) (by kernel_rfl) (fun _ _ _ h => h) (Or.inl ⟨by rfl, ?_⟩) hHeld ?_
              rotate_left
              · intro w hSw; (try dsimp only at hSw); go_simp
                all_goals (with_reducible rfl)
              (try simp only [Act.put, List.getElem_toArray, List.getElem_cons_succ, List.getElem_cons_zero, List.setIfInBounds_toArray, List.set_cons_zero, List.set_cons_succ])
              refine wpAnyH_done (by kernel_rfl) ?_ _
              clear hHeld
              go_wp2_with fail
              go_meet
              case rel =>
                obtain ⟨_, _, eq9, at9⟩ := hE33.at_
                cases eq9
                exact ⟨_, ea, ec, wy, rfl, rfl, x33, at9, b33, ge32⟩
            · go_simp
              obtain ⟨y34, hw34⟩ : ∃ z, (y30.alloc (.cells #[.int .i64 0, .slice none 0 0, .int .i64 0, .int .i64 0, .int .i64 0] 42)) = z := ⟨_, rfl⟩
              obtain ⟨g34, hg34⟩ : ∃ z, y30.heap.size = z := ⟨_, rfl⟩
              have x34 : y34.heap[g34]? = some (.cells #[.int .i64 0, .slice none 0 0, .int .i64 0, .int .i64 0, .int .i64 0] 42 (0, 0)) := by rw [← hw34, ← hg34]; exact World.alloc_heap_new _ _
              have bs34 : Below y30.heap.size y30 y34 := by rw [← hw34]; exact below_alloc _ _
              have b34 : Below w3.heap.size w3 y34 := Below.trans b30 (bs34.mono le30)
              have le34 : w3.heap.size ≤ y34.heap.size := b34.size
              have ge34 : w3.heap.size ≤ g34 := by rw [← hg34]; exact le30
              have r30_34 := (Chg.of_below (O := fun _ => False) bs34).row r30 (fun _ _ h => h)
              rw [hw34, hg34]
              clear hw34 hg34 bs34
              refine hK.out _ _ (HS.out _ b34) (fun hHeld => ?_)
              clear hK K
              (try simp only [Act.put, List.getElem_toArray, List.getElem_cons_succ, List.getElem_cons_zero, List.setIfInBounds_toArray, List.set_cons_zero, List.set_cons_succ])
              refine wpAnyH_ready (rs := [7]) (by kernel_rfl) (by simp) ?_
              refine AllReadyH.cons rfl (fun K hK => ?_) AllReadyH.nil
              obtain ⟨_, _, e35, rr35, _⟩ := RowAt.of_owns r30_34
              cases e35
              go_simp
              refine (HDE.out _ _ _ (by rw [List.map_append]; exact rr35) (ownsRow_cap0 r30_34) (ownsRow_len_cap r30_34)).mono ?_
              rintro _ y35 ⟨ea, ec, wy, rfl, hE35, bs35⟩
              have b35 : Below w3.heap.size w3 y35 := Below.trans b34 (bs35.mono le34)
              have le35 : w3.heap.size ≤ y35.heap.size := b35.size
              have hE35_l := hE35.lt
              have dE35 : ∀ x, (y34.heap.size ≤ x ∧ x < y35.heap.size) → ¬ x = g34 := fun x hx => by have := heap_lt x34; omega
              have x34_35 := (bs35.block _ (heap_lt x34)).trans x34
              refine hK.out _ _ (HS.out _ b35) (fun hHeld => ?_)
              clear hK K
              (try simp only [Act.put, List.getElem_toArray, List.getElem_cons_succ, List.getElem_cons_zero, List.setIfInBounds_toArray, List.set_cons_zero, List.set_cons_succ])
              refine wpAnyH_take (i := 8) (v := ?_) rfl (by kernel_rfl) (by kernel_rfl) (by kernel_rfl) (fun _ _ _ h => h) (Or.inl ⟨by rfl, ?_⟩) hHeld ?_
              rotate_left
              · intro w hSw; (try dsimp only at hSw); go_simp
                all_goals (with_reducible rfl)
              (try simp only [Act.put, List.getElem_toArray, List.getElem_cons_succ, List.getElem_cons_zero, List.setIfInBounds_toArray, List.set_cons_zero, List.set_cons_succ])
              refine wpAnyH_take (i := 9) (v := ?_) rfl (by kernel_rfl) (by kernel_rfl) (by kernel_rfl) (fun _ _ _ h => h) (Or.inl ⟨by rfl, ?_⟩) hHeld ?_
              rotate_left
              · intro w hSw; (try dsimp only at hSw); go_simp
                all_goals (with_reducible rfl)
              (try simp only [Act.put, List.getElem_toArray, List.getElem_cons_succ, List.getElem_cons_zero, List.setIfInBounds_toArray, List.set_cons_zero, List.set_cons_succ])
              refine wpAnyH_take (i := 10) (v := ?_) rfl (by kernel_rfl) (by kernel_rfl) (by kernel_rfl) (fun _ _ _ h => h) (Or.inl ⟨by rfl, ?_⟩) hHeld ?_
              rotate_left
              · intro w hSw; (try dsimp only at hSw); go_simp
                all_goals (with_reducible rfl)
              (try simp only [Act.put, List.getElem_toArray, List.getElem_cons_succ, List.getElem_cons_zero, List.setIfInBounds_toArray, List.set_cons_zero, List.set_cons_succ])
              refine wpAnyH_ready (rs := [12]) (by kernel_rfl) (by simp) ?_
              refine AllReadyH.cons rfl (fun K hK => ?_) AllReadyH.nil
              have z36_0 := frozen_of_heap (i := 0) x34_35
              have z36_1 := frozen_of_heap (i := 1) x34_35
              have z36_2 := frozen_of_heap (i := 2) x34_35
              have z36_3 := frozen_of_heap (i := 3) x34_35
              have z36_4 := frozen_of_heap (i := 4) x34_35
              have k36_0 := cell_of_heap x34_35 (i := 0) (v := .int .i64 0) (by rfl)
              have k36_1 := cell_of_heap x34_35 (i := 1) (v := .slice none 0 0) (by rfl)
              have k36_2 := cell_of_heap x34_35 (i := 2) (v := .int .i64 0) (by rfl)
              have k36_3 := cell_of_heap x34_35 (i := 3) (v := .int .i64 0) (by rfl)
              have k36_4 := cell_of_heap x34_35 (i := 4) (v := .int .i64 0) (by rfl)
              go_simp
              obtain ⟨y36, hw36, x36, hc36⟩ := set5 (x := .int .i64 (n : Int)) (y := .slice ea LA.length ec) (z := .int .i64 (V.length : Int)) (u := .int .i64 ((V.length : Int) + 3)) (v := .int .i64 wy) x34_35
              rw [hw36]
              have b36 : Below w3.heap.size w3 y36 := Below.trans b35 (hc36.belowLo6 le35 (fun x e => by subst e; exact ge34))
              have hE36 := hE35_l.kept (R' := fun _ => True) hc36 (fun x hx e => dE35 x hx e) (fun _ _ => trivial)
              refine hK.out _ _ (HS.out _ b36) (fun hHeld => ?_)
              clear hK K
              (try simp only [Act.put, List.getElem_toArray, List.getElem_cons_succ, List.getElem_cons_zero, List.setIfInBounds_toArray, List.set_cons_zero, List.set_cons_succ])
              refine wpAnyH_take (i := 13) (v := ?_) rfl (by kernel_rfl) (by kernel_rfl) (by kernel_rfl) (fun _ _ _ h => h) (Or.inl ⟨by rfl, ?_⟩) hHeld ?_
              rotate_left
              · intro w hSw; (try dsimp only at hSw); go_simp
                all_goals (with_reducible rfl)
              (try simp only [Act.put, List.getElem_toArray, List.getElem_cons_succ, List.getElem_cons_zero, List.setIfInBounds_toArray, List.set_cons_zero, List.set_cons_succ])
              refine wpAnyH_done (by kernel_rfl) ?_ _
              clear hHeld
              go_wp2_with fail
              go_meet
              case rel =>
                obtain ⟨_, _, eq9, at9⟩ := hE36.at_
                cases eq9
                exact ⟨_, ea, ec, wy, rfl, rfl, x36, at9, b36, ge34⟩
          · go_simp
            obtain ⟨y37, hw37⟩ : ∃ z, (y29.alloc (.cells #[.int .i64 0, .slice none 0 0, .int .i64 0, .int .i64 0, .int .i64 0] 42)) = z := ⟨_, rfl⟩
            obtain ⟨g37, hg37⟩ : ∃ z, y29.heap.size = z := ⟨_, rfl⟩
            have x37 : y37.heap[g37]? = some (.cells #[.int .i64 0, .slice none 0 0, .int .i64 0, .int .i64 0, .int .i64 0] 42 (0, 0)) := by rw [← hw37, ← hg37]; exact World.alloc_heap_new _ _
            have bs37 : Below y29.heap.size y29 y37 := by rw [← hw37]; exact below_alloc _ _
            have b37 : Below w3.heap.size w3 y37 := Below.trans b29 (bs37.mono le29)
            have le37 : w3.heap.size ≤ y37.heap.size := b37.size
            have ge37 : w3.heap.size ≤ g37 := by rw [← hg37]; exact le29
            have n37_Z : ¬ g28 = g37 := by have := heap_lt x28_29; omega
            have x28_29_37 := (bs37.block _ (heap_lt x28_29)).trans x28_29
            have r29_37 := (Chg.of_below (O := fun _ => False) bs37).row r29 (fun _ _ h => h)
            rw [hw37, hg37]
            clear hw37 hg37 bs37
            refine hK.out _ _ (HS.out _ b37) (fun hHeld => ?_)
            clear hK K
            (try simp only [Act.put, List.getElem_toArray, List.getElem_cons_succ, List.getElem_cons_zero, List.setIfInBounds_toArray, List.set_cons_zero, List.set_cons_succ])
            refine wpAnyH_ready (rs := [6]) (by kernel_rfl) (by simp) ?_
            refine AllReadyH.cons rfl (fun K hK => ?_) AllReadyH.nil
            have nzy37 : RowAt y37 (some ⟨g28, 0, none⟩) [.int .u8 0, .int .u8 0, .int .u8 0] := by obtain ⟨_, _, e, h, _⟩ := RowAt.of_owns (row_of_block x28_29_37 (n := 3) rfl (by decide)); cases e; exact h
            refine wp_append_segsrc (.tmp 65) (.tmp 66) 26 rfl 0 5 i0 (.int .u8 0) 1 Tryz.underlying26 hi hz0 hz1 hz2 rfl _ V.length _ rfl r29_37 (some ⟨g28, 0, none⟩) 3 3 [.int .u8 0, .int .u8 0, .int .u8 0] rfl rfl (fun e => by cases e) (nzy37) (by simp [Value.oneCell']) (by omega) (by omega) (Nat.zero_le _) ?_
            intro v38 y38 r38 G38
            obtain ⟨a38, c38, rfl, _, _⟩ := RowAt.of_owns r38
            have b38 : Below w3.heap.size w3 y38 := Below.trans b37 (G38.1.belowLo6 le37 (fun x e => ho29 x e))
            have le38 : w3.heap.size ≤ y38.heap.size := b38.size
            have ho38 : ∀ x, (Value.slice a38 (V.length + 3) c38).ownBlock = some x → w3.heap.size ≤ x := fun x e => by
              rcases G38.2 with q | ⟨g', q, hge⟩
              · rw [q] at e; exact ho29 x e
              · rw [q] at e; cases e; have := le37; omega
            have x37_38 := G38.1.obj x37 (fun e => by obtain ⟨_, _, q⟩ := ownsRow_ty r29_37 e; rw [x37] at q; simp only [Option.some.injEq, Obj.cells.injEq] at q; exact absurd q.2.1 (by decide))
            refine hK.out _ _ (HS.out _ b38) (fun hHeld => ?_)
            clear hK K
            (try simp only [Act.put, List.getElem_toArray, List.getElem_cons_succ, List.getElem_cons_zero, List.setIfInBounds_toArray, List.set_cons_zero, List.set_cons_succ])
            refine wpAnyH_ready (rs := [7]) (by kernel_rfl) (by simp) ?_
            refine AllReadyH.cons rfl (fun K hK => ?_) AllReadyH.nil
            obtain ⟨_, _, e39, rr39, _⟩ := RowAt.of_owns r38
            cases e39
            go_simp
            refine (HDE.out _ _ _ (by rw [List.map_append]; exact rr39) (ownsRow_cap0 r38) (ownsRow_len_cap r38)).mono ?_
            rintro _ y39 ⟨ea, ec, wy, rfl, hE39, bs39⟩
            have b39 : Below w3.heap.size w3 y39 := Below.trans b38 (bs39.mono le38)
            have le39 : w3.heap.size ≤ y39.heap.size := b39.size
            have hE39_l := hE39.lt
            have dE39 : ∀ x, (y38.heap.size ≤ x ∧ x < y39.heap.size) → ¬ x = g37 := fun x hx => by have := heap_lt x37_38; omega
            have x37_38_39 := (bs39.block _ (heap_lt x37_38)).trans x37_38
            refine hK.out _ _ (HS.out _ b39) (fun hHeld => ?_)
            clear hK K
            (try simp only [Act.put, List.getElem_toArray, List.getElem_cons_succ, List.getElem_cons_zero, List.setIfInBounds_toArray, List.set_cons_zero, List.set_cons_succ])
            refine wpAnyH_take (i := 8) (v := ?_) rfl (by kernel_rfl) (by kernel_rfl) (by kernel_rfl) (fun _ _ _ h => h) (Or.inl ⟨by rfl, ?_⟩) hHeld ?_
            rotate_left
            · intro w hSw; (try dsimp only at hSw); go_simp
              all_goals (with_reducible rfl)
            (try simp only [Act.put, List.getElem_toArray, List.getElem_cons_succ, List.getElem_cons_zero, List.setIfInBounds_toArray, List.set_cons_zero, List.set_cons_succ])
            refine wpAnyH_take (i := 9) (v := ?_) rfl (by kernel_rfl) (by kernel_rfl) (by kernel_rfl) (fun _ _ _ h => h) (Or.inl ⟨by rfl, ?_⟩) hHeld ?_
            rotate_left
            · intro w hSw; (try dsimp only at hSw); go_simp
              all_goals (with_reducible rfl)
            (try simp only [Act.put, List.getElem_toArray, List.getElem_cons_succ, List.getElem_cons_zero, List.setIfInBounds_toArray, List.set_cons_zero, List.set_cons_succ])
            refine wpAnyH_take (i := 10) (v := ?_) rfl (by kernel_rfl) (by kernel_rfl) (by kernel_rfl) (fun _ _ _ h => h) (Or.inl ⟨by rfl, ?_⟩) hHeld ?_
            rotate_left
            · intro w hSw; (try dsimp only at hSw); go_simp
              all_goals (with_reducible rfl)
            (try simp only [Act.put, List.getElem_toArray, List.getElem_cons_succ, List.getElem_cons_zero, List.setIfInBounds_toArray, List.set_cons_zero, List.set_cons_succ])
            refine wpAnyH_ready (rs := [12]) (by kernel_rfl) (by simp) ?_
            refine AllReadyH.cons rfl (fun K hK => ?_) AllReadyH.nil
            have z40_0 := frozen_of_heap (i := 0) x37_38_39
            have z40_1 := frozen_of_heap (i := 1) x37_38_39
            have z40_2 := frozen_of_heap (i := 2) x37_38_39
            have z40_3 := frozen_of_heap (i := 3) x37_38_39
            have z40_4 := frozen_of_heap (i := 4) x37_38_39
            have k40_0 := cell_of_heap x37_38_39 (i := 0) (v := .int .i64 0) (by rfl)
            have k40_1 := cell_of_heap x37_38_39 (i := 1) (v := .slice none 0 0) (by rfl)
            have k40_2 := cell_of_heap x37_38_39 (i := 2) (v := .int .i64 0) (by rfl)
            have k40_3 := cell_of_heap x37_38_39 (i := 3) (v := .int .i64 0) (by rfl)
            have k40_4 := cell_of_heap x37_38_39 (i := 4) (v := .int .i64 0) (by rfl)
            go_simp
            obtain ⟨y40, hw40, x40, hc40⟩ := set5 (x := .int .i64 (n : Int)) (y := .slice ea LA.length ec) (z := .int .i64 (V.length : Int)) (u := .int .i64 ((V.length : Int) + 3)) (v := .int .i64 wy) x37_38_39
            rw [hw40]
            have b40 : Below w3.heap.size w3 y40 := Below.trans b39 (hc40.belowLo6 le39 (fun x e => by subst e; exact ge37))
            have hE40 := hE39_l.kept (R' := fun _ => True) hc40 (fun x hx e => dE39 x hx e) (fun _ _ => trivial)
            refine hK.out _ _ (HS.out _ b40) (fun hHeld => ?_)
            clear hK K
            (try simp only [Act.put, List.getElem_toArray, List.getElem_cons_succ, List.getElem_cons_zero, List.setIfInBounds_toArray, List.set_cons_zero, List.set_cons_succ])
            refine wpAnyH_take (i := 13) (v := ?_) rfl (by kernel_rfl) (by kernel_rfl) (by kernel_rfl) (fun _ _ _ h => h) (Or.inl ⟨by rfl, ?_⟩) hHeld ?_
            rotate_left
            · intro w hSw; (try dsimp only at hSw); go_simp
              all_goals (with_reducible rfl)
            (try simp only [Act.put, List.getElem_toArray, List.getElem_cons_succ, List.getElem_cons_zero, List.setIfInBounds_toArray, List.set_cons_zero, List.set_cons_succ])
            refine wpAnyH_done (by kernel_rfl) ?_ _
            clear hHeld
            go_wp2_with fail
            go_meet
            case rel =>
              obtain ⟨_, _, eq9, at9⟩ := hE40.at_
              cases eq9
              exact ⟨_, ea, ec, wy, rfl, rfl, x40, at9, b40, ge37⟩
        · go_simp
          obtain ⟨y41, hw41⟩ : ∃ z, (y28.alloc (.cells #[.int .i64 0, .slice none 0 0, .int .i64 0, .int .i64 0, .int .i64 0] 42)) = z := ⟨_, rfl⟩
          obtain ⟨g41, hg41⟩ : ∃ z, y28.heap.size = z := ⟨_, rfl⟩
          have x41 : y41.heap[g41]? = some (.cells #[.int .i64 0, .slice none 0 0, .int .i64 0, .int .i64 0, .int .i64 0] 42 (0, 0)) := by rw [← hw41, ← hg41]; exact World.alloc_heap_new _ _
          have bs41 : Below y28.heap.size y28 y41 := by rw [← hw41]; exact below_alloc _ _
          have b41 : Below w3.heap.size w3 y41 := Below.trans b28 (bs41.mono le28)
          have le41 : w3.heap.size ≤ y41.heap.size := b41.size
          have ge41 : w3.heap.size ≤ g41 := by rw [← hg41]; exact le28
          have n41_L : ¬ g9 = g41 := by have := heap_lt x9_28; omega
          have x9_28_41 := (bs41.block _ (heap_lt x9_28)).trans x9_28
          have n41_Z : ¬ g28 = g41 := by have := heap_lt x28; omega
          have x28_41 := (bs41.block _ (heap_lt x28)).trans x28
          rw [hw41, hg41]
          clear hw41 hg41 bs41
          refine hK.out _ _ (HS.out _ b41) (fun hHeld => ?_)
          clear hK K
          (try simp only [Act.put, List.getElem_toArray, List.getElem_cons_succ, List.getElem_cons_zero, List.setIfInBounds_toArray, List.set_cons_zero, List.set_cons_succ])
          refine wpAnyH_ready (rs := [4]) (by kernel_rfl) (by simp) ?_
          refine AllReadyH.cons rfl (fun K hK => ?_) AllReadyH.nil
          have q42 := row_of_block x9_28_41 (n := 0) rfl (by decide)
          refine wp_append_segsrc (.tmp 63) (.tmp 64) 26 rfl 0 5 i0 (.int .u8 0) 1 Tryz.underlying26 hi hz0 hz1 hz2 rfl _ 0 [] rfl q42 ua V.length uc (V.map bv) rfl (by simp) un (UR.out.below b41) (by intro u hu; obtain ⟨_, _, rfl⟩ := List.mem_map.1 hu; rfl) (by omega) (by omega) (Nat.zero_le _) ?_
          intro v42 y42 r42 G42
          rw [Nat.zero_add, List.nil_append] at r42
          obtain ⟨a42, c42, rfl, _, _⟩ := RowAt.of_owns r42
          have b42 : Below w3.heap.size w3 y42 := Below.trans b41 (G42.1.belowLo6 le41 (fun x e => by cases e; exact ge9))
          have le42 : w3.heap.size ≤ y42.heap.size := b42.size
          have ho42 : ∀ x, (Value.slice a42 (V.length) c42).ownBlock = some x → w3.heap.size ≤ x := fun x e => by
            rcases G42.2 with q | ⟨g', q, hge⟩
            · rw [q] at e; cases e; exact ge9
            · rw [q] at e; cases e; have := le41; omega
          have x28_41_42 := G42.1.obj x28_41 (fun e => absurd (Option.some.inj (show some g9 = some g28 from e)) n28_L)
          have x41_42 := G42.1.obj x41 (fun e => by obtain ⟨_, _, q⟩ := ownsRow_ty q42 e; rw [x41] at q; simp only [Option.some.injEq, Obj.cells.injEq] at q; exact absurd q.2.1 (by decide))
          refine hK.out _ _ (HS.out _ b42) (fun hHeld => ?_)
          clear hK K
          (try simp only [Act.put, List.getElem_toArray, List.getElem_cons_succ, List.getElem_cons_zero, List.setIfInBounds_toArray, List.set_cons_zero, List.set_cons_succ])
          refine wpAnyH_ready (rs := [6]) (by kernel_rfl) (by simp) ?_
          refine AllReadyH.cons rfl (fun K hK => ?_) AllReadyH.nil
          have nzy42 : RowAt y42 (some ⟨g28, 0, none⟩) [.int .u8 0, .int .u8 0, .int .u8 0] := by obtain ⟨_, _, e, h, _⟩ := RowAt.of_owns (row_of_block x28_41_42 (n := 3) rfl (by decide)); cases e; exact h
          refine wp_append_segsrc (.tmp 65) (.tmp 66) 26 rfl 0 5 i0 (.int .u8 0) 1 Tryz.underlying26 hi hz0 hz1 hz2 rfl _ V.length _ rfl r42 (some ⟨g28, 0, none⟩) 3 3 [.int .u8 0, .int .u8 0, .int .u8 0] rfl rfl (fun e => by cases e) (nzy42) (by simp [Value.oneCell']) (by omega) (by omega) (Nat.zero_le _) ?_
          intro v43 y43 r43 G43
          obtain ⟨a43, c43, rfl, _, _⟩ := RowAt.of_owns r43
          have b43 : Below w3.heap.size w3 y43 := Below.trans b42 (G43.1.belowLo6 le42 (fun x e => ho42 x e))
          have le43 : w3.heap.size ≤ y43.heap.size := b43.size
          have ho43 : ∀ x, (Value.slice a43 (V.length + 3) c43).ownBlock = some x → w3.heap.size ≤ x := fun x e => by
            rcases G43.2 with q | ⟨g', q, hge⟩
            · rw [q] at e; exact ho42 x e
            · rw [q] at e; cases e; have := le42; omega
          have x41_42_43 := G43.1.obj x41_42 (fun e => by obtain ⟨_, _, q⟩ := ownsRow_ty r42 e; rw [x41_42] at q; simp only [Option.some.injEq, Obj.cells.injEq] at q; exact absurd q.2.1 (by decide))
          refine hK.out _ _ (HS.out _ b43) (fun hHeld => ?_)
          clear hK K
          (try simp only [Act.put, List.getElem_toArray, List.getElem_cons_succ, List.getElem_cons_zero, List.setIfInBounds_toArray, List.set_cons_zero, List.set_cons_succ])
          refine wpAnyH_ready (rs := [7]) (by kernel_rfl) (by simp) ?_
          refine AllReadyH.cons rfl (fun K hK => ?_) AllReadyH.nil
          obtain ⟨_, _, e44, rr44, _⟩ := RowAt.of_owns r43
          cases e44
          go_simp
          refine (HDE.out _ _ _ (by rw [List.map_append]; exact rr44) (ownsRow_cap0 r43) (ownsRow_len_cap r43)).mono ?_
          rintro _ y44 ⟨ea, ec, wy, rfl, hE44, bs44⟩
          have b44 : Below w3.heap.size w3 y44 := Below.trans b43 (bs44.mono le43)
          have le44 : w3.heap.size ≤ y44.heap.size := b44.size
          have hE44_l := hE44.lt
          have dE44 : ∀ x, (y43.heap.size ≤ x ∧ x < y44.heap.size) → ¬ x = g41 := fun x hx => by have := heap_lt x41_42_43; omega
          have x41_42_43_44 := (bs44.block _ (heap_lt x41_42_43)).trans x41_42_43
          refine hK.out _ _ (HS.out _ b44) (fun hHeld => ?_)
          clear hK K
          (try simp only [Act.put, List.getElem_toArray, List.getElem_cons_succ, List.getElem_cons_zero, List.setIfInBounds_toArray, List.set_cons_zero, List.set_cons_succ])
          refine wpAnyH_take (i := 8) (v := ?_) rfl (by kernel_rfl) (by kernel_rfl) (by kernel_rfl) (fun _ _ _ h => h) (Or.inl ⟨by rfl, ?_⟩) hHeld ?_
          rotate_left
          · intro w hSw; (try dsimp only at hSw); go_simp
            all_goals (with_reducible rfl)
          (try simp only [Act.put, List.getElem_toArray, List.getElem_cons_succ, List.getElem_cons_zero, List.setIfInBounds_toArray, List.set_cons_zero, List.set_cons_succ])
          refine wpAnyH_take (i := 9) (v := ?_) rfl (by kernel_rfl) (by kernel_rfl) (by kernel_rfl) (fun _ _ _ h => h) (Or.inl ⟨by rfl, ?_⟩) hHeld ?_
          rotate_left
          · intro w hSw; (try dsimp only at hSw); go_simp
            all_goals (with_reducible rfl)
          (try simp only [Act.put, List.getElem_toArray, List.getElem_cons_succ, List.getElem_cons_zero, List.setIfInBounds_toArray, List.set_cons_zero, List.set_cons_succ])
          refine wpAnyH_take (i := 10) (v := ?_) rfl (by kernel_rfl) (by kernel_rfl) (by kernel_rfl) (fun _ _ _ h => h) (Or.inl ⟨by rfl, ?_⟩) hHeld ?_
          rotate_left
          · intro w hSw; (try dsimp only at hSw); go_simp
            all_goals (with_reducible rfl)
          (try simp only [Act.put, List.getElem_toArray, List.getElem_cons_succ, List.getElem_cons_zero, List.setIfInBounds_toArray, List.set_cons_zero, List.set_cons_succ])
          refine wpAnyH_ready (rs := [12]) (by kernel_rfl) (by simp) ?_
          refine AllReadyH.cons rfl (fun K hK => ?_) AllReadyH.nil
          have z45_0 := frozen_of_heap (i := 0) x41_42_43_44
          have z45_1 := frozen_of_heap (i := 1) x41_42_43_44
          have z45_2 := frozen_of_heap (i := 2) x41_42_43_44
          have z45_3 := frozen_of_heap (i := 3) x41_42_43_44
          have z45_4 := frozen_of_heap (i := 4) x41_42_43_44
          have k45_0 := cell_of_heap x41_42_43_44 (i := 0) (v := .int .i64 0) (by rfl)
          have k45_1 := cell_of_heap x41_42_43_44 (i := 1) (v := .slice none 0 0) (by rfl)
          have k45_2 := cell_of_heap x41_42_43_44 (i := 2) (v := .int .i64 0) (by rfl)
          have k45_3 := cell_of_heap x41_42_43_44 (i := 3) (v := .int .i64 0) (by rfl)
          have k45_4 := cell_of_heap x41_42_43_44 (i := 4) (v := .int .i64 0) (by rfl)
          go_simp
          obtain ⟨y45, hw45, x45, hc45⟩ := set5 (x := .int .i64 (n : Int)) (y := .slice ea LA.length ec) (z := .int .i64 (V.length : Int)) (u := .int .i64 ((V.length : Int) + 3)) (v := .int .i64 wy) x41_42_43_44
          rw [hw45]
          have b45 : Below w3.heap.size w3 y45 := Below.trans b44 (hc45.belowLo6 le44 (fun x e => by subst e; exact ge41))
          have hE45 := hE44_l.kept (R' := fun _ => True) hc45 (fun x hx e => dE44 x hx e) (fun _ _ => trivial)
          refine hK.out _ _ (HS.out _ b45) (fun hHeld => ?_)
          clear hK K
          (try simp only [Act.put, List.getElem_toArray, List.getElem_cons_succ, List.getElem_cons_zero, List.setIfInBounds_toArray, List.set_cons_zero, List.set_cons_succ])
          refine wpAnyH_take (i := 13) (v := ?_) rfl (by kernel_rfl) (by kernel_rfl) (by kernel_rfl) (fun _ _ _ h => h) (Or.inl ⟨by rfl, ?_⟩) hHeld ?_
          rotate_left
          · intro w hSw; (try dsimp only at hSw); go_simp
            all_goals (with_reducible rfl)
          (try simp only [Act.put, List.getElem_toArray, List.getElem_cons_succ, List.getElem_cons_zero, List.setIfInBounds_toArray, List.set_cons_zero, List.set_cons_succ])
          refine wpAnyH_done (by kernel_rfl) ?_ _
          clear hHeld
          go_wp2_with fail
          go_meet
          case rel =>
            obtain ⟨_, _, eq9, at9⟩ := hE45.at_
            cases eq9
            exact ⟨_, ea, ec, wy, rfl, rfl, x45, at9, b45, ge41⟩
      · go_simp
        obtain ⟨y46, hw46⟩ : ∃ z, (y9.alloc (.cells #[.int .i64 0, .slice none 0 0, .int .i64 0, .int .i64 0, .int .i64 0] 42)) = z := ⟨_, rfl⟩
        obtain ⟨g46, hg46⟩ : ∃ z, y9.heap.size = z := ⟨_, rfl⟩
        have x46 : y46.heap[g46]? = some (.cells #[.int .i64 0, .slice none 0 0, .int .i64 0, .int .i64 0, .int .i64 0] 42 (0, 0)) := by rw [← hw46, ← hg46]; exact World.alloc_heap_new _ _
        have bs46 : Below y9.heap.size y9 y46 := by rw [← hw46]; exact below_alloc _ _
        have b46 : Below w3.heap.size w3 y46 := Below.trans b9 (bs46.mono le9)
        have le46 : w3.heap.size ≤ y46.heap.size := b46.size
        have ge46 : w3.heap.size ≤ g46 := by rw [← hg46]; exact le9
        have n46_L : ¬ g9 = g46 := by have := heap_lt x9; omega
        have x9_46 := (bs46.block _ (heap_lt x9)).trans x9
        rw [hw46, hg46]
        clear hw46 hg46 bs46
        refine hK.out _ _ (HS.out _ b46) (fun hHeld => ?_)
        clear hK K
        (try simp only [Act.put, List.getElem_toArray, List.getElem_cons_succ, List.getElem_cons_zero, List.setIfInBounds_toArray, List.set_cons_zero, List.set_cons_succ])
        refine wpAnyH_ready (rs := [4, 5]) (by kernel_rfl) (by simp) ?_
        refine AllReadyH.cons rfl (fun K hK => ?_) (AllReadyH.cons rfl (fun K hK => ?_) AllReadyH.nil)
        · have q47 := row_of_block x9_46 (n := 0) rfl (by decide)
          refine wp_append_segsrc (.tmp 63) (.tmp 64) 26 rfl 0 5 i0 (.int .u8 0) 1 Tryz.underlying26 hi hz0 hz1 hz2 rfl _ 0 [] rfl q47 ua V.length uc (V.map bv) rfl (by simp) un (UR.out.below b46) (by intro u hu; obtain ⟨_, _, rfl⟩ := List.mem_map.1 hu; rfl) (by omega) (by omega) (Nat.zero_le _) ?_
          intro v47 y47 r47 G47
          rw [Nat.zero_add, List.nil_append] at r47
          obtain ⟨a47, c47, rfl, _, _⟩ := RowAt.of_owns r47
          have b47 : Below w3.heap.size w3 y47 := Below.trans b46 (G47.1.belowLo6 le46 (fun x e => by cases e; exact ge9))
          have le47 : w3.heap.size ≤ y47.heap.size := b47.size
          have ho47 : ∀ x, (Value.slice a47 (V.length) c47).ownBlock = some x → w3.heap.size ≤ x := fun x e => by
            rcases G47.2 with q | ⟨g', q, hge⟩
            · rw [q] at e; cases e; exact ge9
            · rw [q] at e; cases e; have := le46; omega
          have x46_47 := G47.1.obj x46 (fun e => by obtain ⟨_, _, q⟩ := ownsRow_ty q47 e; rw [x46] at q; simp only [Option.some.injEq, Obj.cells.injEq] at q; exact absurd q.2.1 (by decide))
          refine hK.out _ _ (HS.out _ b47) (fun hHeld => ?_)
          clear hK K
          (try simp only [Act.put, List.getElem_toArray, List.getElem_cons_succ, List.getElem_cons_zero, List.setIfInBounds_toArray, List.set_cons_zero, List.set_cons_succ])
          refine wpAnyH_ready (rs := [5]) (by kernel_rfl) (by simp) ?_
          refine AllReadyH.cons rfl (fun K hK => ?_) AllReadyH.nil
          go_simp
          obtain ⟨y48, hw48⟩ : ∃ z, (y47.alloc (.cells #[.int .u8 0, .int .u8 0, .int .u8 0] 5)) = z := ⟨_, rfl⟩
          obtain ⟨g48, hg48⟩ : ∃ z, y47.heap.size = z := ⟨_, rfl⟩
          have x48 : y48.heap[g48]? = some (.cells #[.int .u8 0, .int .u8 0, .int .u8 0] 5 (0, 0)) := by rw [← hw48, ← hg48]; exact World.alloc_heap_new _ _
          have bs48 : Below y47.heap.size y47 y48 := by rw [← hw48]; exact below_alloc _ _
          have b48 : Below w3.heap.size w3 y48 := Below.trans b47 (bs48.mono le47)
          have le48 : w3.heap.size ≤ y48.heap.size := b48.size
          have ge48 : w3.heap.size ≤ g48 := by rw [← hg48]; exact le47
          have n48_T : ¬ g46 = g48 := by have := heap_lt x46_47; omega
          have x46_47_48 := (bs48.block _ (heap_lt x46_47)).trans x46_47
          have r47_48 := (Chg.of_below (O := fun _ => False) bs48).row r47 (fun _ _ h => h)
          rw [hw48, hg48]
          clear hw48 hg48 bs48
          refine hK.out _ _ (HS.out _ b48) (fun hHeld => ?_)
          clear hK K
          (try simp only [Act.put, List.getElem_toArray, List.getElem_cons_succ, List.getElem_cons_zero, List.setIfInBounds_toArray, List.set_cons_zero, List.set_cons_succ])
          refine wpAnyH_ready (rs := [6]) (by kernel_rfl) (by simp) ?_
          refine AllReadyH.cons rfl (fun K hK => ?_) AllReadyH.nil
          have nzy48 : RowAt y48 (some ⟨g48, 0, none⟩) [.int .u8 0, .int .u8 0, .int .u8 0] := by obtain ⟨_, _, e, h, _⟩ := RowAt.of_owns (row_of_block x48 (n := 3) rfl (by decide)); cases e; exact h
          refine wp_append_segsrc (.tmp 65) (.tmp 66) 26 rfl 0 5 i0 (.int .u8 0) 1 Tryz.underlying26 hi hz0 hz1 hz2 rfl _ V.length _ rfl r47_48 (some ⟨g48, 0, none⟩) 3 3 [.int .u8 0, .int .u8 0, .int .u8 0] rfl rfl (fun e => by cases e) (nzy48) (by simp [Value.oneCell']) (by omega) (by omega) (Nat.zero_le _) ?_
          intro v49 y49 r49 G49
          obtain ⟨a49, c49, rfl, _, _⟩ := RowAt.of_owns r49
          have b49 : Below w3.heap.size w3 y49 := Below.trans b48 (G49.1.belowLo6 le48 (fun x e => ho47 x e))
          have le49 : w3.heap.size ≤ y49.heap.size := b49.size
          have ho49 : ∀ x, (Value.slice a49 (V.length + 3) c49).ownBlock = some x → w3.heap.size ≤ x := fun x e => by
            rcases G49.2 with q | ⟨g', q, hge⟩
            · rw [q] at e; exact ho47 x e
            · rw [q] at e; cases e; have := le48; omega
          have x46_47_48_49 := G49.1.obj x46_47_48 (fun e => by obtain ⟨_, _, q⟩ := ownsRow_ty r47_48 e; rw [x46_47_48] at q; simp only [Option.some.injEq, Obj.cells.injEq] at q; exact absurd q.2.1 (by decide))
          refine hK.out _ _ (HS.out _ b49) (fun hHeld => ?_)
          clear hK K
          (try simp only [Act.put, List.getElem_toArray, List.getElem_cons_succ, List.getElem_cons_zero, List.setIfInBounds_toArray, List.set_cons_zero, List.set_cons_succ])
          refine wpAnyH_ready (rs := [7]) (by kernel_rfl) (by simp) ?_
          refine AllReadyH.cons rfl (fun K hK => ?_) AllReadyH.nil
          obtain ⟨_, _, e50, rr50, _⟩ := RowAt.of_owns r49
          cases e50
          go_simp
          refine (HDE.out _ _ _ (by rw [List.map_append]; exact rr50) (ownsRow_cap0 r49) (ownsRow_len_cap r49)).mono ?_
          rintro _ y50 ⟨ea, ec, wy, rfl, hE50, bs50⟩
          have b50 : Below w3.heap.size w3 y50 := Below.trans b49 (bs50.mono le49)
          have le50 : w3.heap.size ≤ y50.heap.size := b50.size
          have hE50_l := hE50.lt
          have dE50 : ∀ x, (y49.heap.size ≤ x ∧ x < y50.heap.size) → ¬ x = g46 := fun x hx => by have := heap_lt x46_47_48_49; omega
          have x46_47_48_49_50 := (bs50.block _ (heap_lt x46_47_48_49)).trans x46_47_48_49
          refine hK.out _ _ (HS.out _ b50) (fun hHeld => ?_)
          clear hK K
          (try simp only [Act.put, List.getElem_toArray, List.getElem_cons_succ, List.getElem_cons_zero, List.setIfInBounds_toArray, List.set_cons_zero, List.set_cons_succ])
          refine wpAnyH_take (i := 8) (v := ?_) rfl (by kernel_rfl) (by kernel_rfl) (by kernel_rfl) (fun _ _ _ h => h) (Or.inl ⟨by rfl, ?_⟩) hHeld ?_
          rotate_left
          · intro w hSw; (try dsimp only at hSw); go_simp
            all_goals (with_reducible rfl)
          (try simp only [Act.put, List.getElem_toArray, List.getElem_cons_succ, List.getElem_cons_zero, List.setIfInBounds_toArray, List.set_cons_zero, List.set_cons_succ])
          refine wpAnyH_take (i := 9) (v := ?_) rfl (by kernel_rfl) (by kernel_rfl) (by kernel_rfl) (fun _ _ _ h => h) (Or.inl ⟨by rfl, ?_⟩) hHeld ?_
          rotate_left
          · intro w hSw; (try dsimp only at hSw); go_simp
            all_goals (with_reducible rfl)
          (try simp only [Act.put, List.getElem_toArray, List.getElem_cons_succ, List.getElem_cons_zero, List.setIfInBounds_toArray, List.set_cons_zero, List.set_cons_succ])
          refine wpAnyH_take (i := 10) (v := ?_) rfl (by kernel_rfl) (by kernel_rfl) (by kernel_rfl) (fun _ _ _ h => h) (Or.inl ⟨by rfl, ?_⟩) hHeld ?_
          rotate_left
          · intro w hSw; (try dsimp only at hSw); go_simp
            all_goals (with_reducible rfl)
          (try simp only [Act.put, List.getElem_toArray, List.getElem_cons_succ, List.getElem_cons_zero, List.setIfInBounds_toArray, List.set_cons_zero, List.set_cons_succ])
          refine wpAnyH_ready (rs := [12]) (by kernel_rfl) (by simp) ?_
          refine AllReadyH.cons rfl (fun K hK => ?_) AllReadyH.nil
          have z51_0 := frozen_of_heap (i := 0) x46_47_48_49_50
          have z51_1 := frozen_of_heap (i := 1) x46_47_48_49_50
          have z51_2 := frozen_of_heap (i := 2) x46_47_48_49_50
          have z51_3 := frozen_of_heap (i := 3) x46_47_48_49_50
          have z51_4 := frozen_of_heap (i := 4) x46_47_48_49_50
          have k51_0 := cell_of_heap x46_47_48_49_50 (i := 0) (v := .int .i64 0) (by rfl)
          have k51_1 := cell_of_heap x46_47_48_49_50 (i := 1) (v := .slice none 0 0) (by rfl)
          have k51_2 := cell_of_heap x46_47_48_49_50 (i := 2) (v := .int .i64 0) (by rfl)
          have k51_3 := cell_of_heap x46_47_48_49_50 (i := 3) (v := .int .i64 0) (by rfl)
          have k51_4 := cell_of_heap x46_47_48_49_50 (i := 4) (v := .int .i64 0) (by rfl)
          go_simp
          obtain ⟨y51, hw51, x51, hc51⟩ := set5 (x := .int .i64 (n : Int)) (y := .slice ea LA.length ec) (z := .int .i64 (V.length : Int)) (u := .int .i64 ((V.length : Int) + 3)) (v := .int .i64 wy) x46_47_48_49_50
          rw [hw51]
          have b51 : Below w3.heap.size w3 y51 := Below.trans b50 (hc51.belowLo6 le50 (fun x e => by subst e; exact ge46))
          have hE51 := hE50_l.kept (R' := fun _ => True) hc51 (fun x hx e => dE50 x hx e) (fun _ _ => trivial)
          refine hK.out _ _ (HS.out _ b51) (fun hHeld => ?_)
          clear hK K
          (try simp only [Act.put, List.getElem_toArray, List.getElem_cons_succ, List.getElem_cons_zero, List.setIfInBounds_toArray, List.set_cons_zero, List.set_cons_succ])
          refine wpAnyH_take (i := 13) (v := ?_) rfl (by kernel_rfl) (by kernel_rfl) (by kernel_rfl) (fun _ _ _ h => h) (Or.inl ⟨by rfl, ?_⟩) hHeld ?_
          rotate_left
          · intro w hSw; (try dsimp only at hSw); go_simp
            all_goals (with_reducible rfl)
          (try simp only [Act.put, List.getElem_toArray, List.getElem_cons_succ, List.getElem_cons_zero, List.setIfInBounds_toArray, List.set_cons_zero, List.set_cons_succ])
          refine wpAnyH_done (by kernel_rfl) ?_ _
          clear hHeld
          go_wp2_with fail
          go_meet
          case rel =>
            obtain ⟨_, _, eq9, at9⟩ := hE51.at_
            cases eq9
            exact ⟨_, ea, ec, wy, rfl, rfl, x51, at9, b51, ge46⟩
        · go_simp
          obtain ⟨y52, hw52⟩ : ∃ z, (y46.alloc (.cells #[.int .u8 0, .int .u8 0, .int .u8 0] 5)) = z := ⟨_, rfl⟩
          obtain ⟨g52, hg52⟩ : ∃ z, y46.heap.size = z := ⟨_, rfl⟩
          have x52 : y52.heap[g52]? = some (.cells #[.int .u8 0, .int .u8 0, .int .u8 0] 5 (0, 0)) := by rw [← hw52, ← hg52]; exact World.alloc_heap_new _ _
          have bs52 : Below y46.heap.size y46 y52 := by rw [← hw52]; exact below_alloc _ _
          have b52 : Below w3.heap.size w3 y52 := Below.trans b46 (bs52.mono le46)
          have le52 : w3.heap.size ≤ y52.heap.size := b52.size
          have ge52 : w3.heap.size ≤ g52 := by rw [← hg52]; exact le46
          have n52_L : ¬ g9 = g52 := by have := heap_lt x9_46; omega
          have x9_46_52 := (bs52.block _ (heap_lt x9_46)).trans x9_46
          have n52_T : ¬ g46 = g52 := by have := heap_lt x46; omega
          have x46_52 := (bs52.block _ (heap_lt x46)).trans x46
          rw [hw52, hg52]
          clear hw52 hg52 bs52
          refine hK.out _ _ (HS.out _ b52) (fun hHeld => ?_)
          clear hK K
          (try simp only [Act.put, List.getElem_toArray, List.getElem_cons_succ, List.getElem_cons_zero, List.setIfInBounds_toArray, List.set_cons_zero, List.set_cons_succ])
          refine wpAnyH_ready (rs := [4]) (by kernel_rfl) (by simp) ?_
          refine AllReadyH.cons rfl (fun K hK => ?_) AllReadyH.nil
          have q53 := row_of_block x9_46_52 (n := 0) rfl (by decide)
          refine wp_append_segsrc (.tmp 63) (.tmp 64) 26 rfl 0 5 i0 (.int .u8 0) 1 Tryz.underlying26 hi hz0 hz1 hz2 rfl _ 0 [] rfl q53 ua V.length uc (V.map bv) rfl (by simp) un (UR.out.below b52) (by intro u hu; obtain ⟨_, _, rfl⟩ := List.mem_map.1 hu; rfl) (by omega) (by omega) (Nat.zero_le _) ?_
          intro v53 y53 r53 G53
          rw [Nat.zero_add, List.nil_append] at r53
          obtain ⟨a53, c53, rfl, _, _⟩ := RowAt.of_owns r53
          have b53 : Below w3.heap.size w3 y53 := Below.trans b52 (G53.1.belowLo6 le52 (fun x e => by cases e; exact ge9))
          have le53 : w3.heap.size ≤ y53.heap.size := b53.size
          have ho53 : ∀ x, (Value.slice a53 (V.length) c53).ownBlock = some x → w3.heap.size ≤ x := fun x e => by
            rcases G53.2 with q | ⟨g', q, hge⟩
            · rw [q] at e; cases e; exact ge9
            · rw [q] at e; cases e; have := le52; omega
          have x46_52_53 := G53.1.obj x46_52 (fun e => by obtain ⟨_, _, q⟩ := ownsRow_ty q53 e; rw [x46_52] at q; simp only [Option.some.injEq, Obj.cells.injEq] at q; exact absurd q.2.1 (by decide))
          have x52_53 := G53.1.obj x52 (fun e => absurd (Option.some.inj (show some g9 = some g52 from e)) n52_L)
          refine hK.out _ _ (HS.out _ b53) (fun hHeld => ?_)
          clear hK K
          (try simp only [Act.put, List.getElem_toArray, List.getElem_cons_succ, List.getElem_cons_zero, List.setIfInBounds_toArray, List.set_cons_zero, List.set_cons_succ])
          refine wpAnyH_ready (rs := [6]) (by kernel_rfl) (by simp) ?_
          refine AllReadyH.cons rfl (fun K hK => ?_) AllReadyH.nil
          have nzy53 : RowAt y53 (some ⟨g52, 0, none⟩) [.int .u8 0, .int .u8 0, .int .u8 0] := by obtain ⟨_, _, e, h, _⟩ := RowAt.of_owns (row_of_block x52_53 (n := 3) rfl (by decide)); cases e; exact h
          refine wp_append_segsrc (.tmp 65) (.tmp 66) 26 rfl 0 5 i0 (.int .u8 0) 1 Tryz.underlying26 hi hz0 hz1 hz2 rfl _ V.length _ rfl r53 (some ⟨g52, 0, none⟩) 3 3 [.int .u8 0, .int .u8 0, .int .u8 0] rfl rfl (fun e => by cases e) (nzy53) (by simp [Value.oneCell']) (by omega) (by omega) (Nat.zero_le _) ?_
          intro v54 y54 r54 G54
          obtain ⟨a54, c54, rfl, _, _⟩ := RowAt.of_owns r54
          have b54 : Below w3.heap.size w3 y54 := Below.trans b53 (G54.1.belowLo6 le53 (fun x e => ho53 x e))
          have le54 : w3.heap.size ≤ y54.heap.size := b54.size
          have ho54 : ∀ x, (Value.slice a54 (V.length + 3) c54).ownBlock = some x → w3.heap.size ≤ x := fun x e => by
            rcases G54.2 with q | ⟨g', q, hge⟩
            · rw [q] at e; exact ho53 x e
            · rw [q] at e; cases e; have := le53; omega
          have x46_52_53_54 := G54.1.obj x46_52_53 (fun e => by obtain ⟨_, _, q⟩ := ownsRow_ty r53 e; rw [x46_52_53] at q; simp only [Option.some.injEq, Obj.cells.injEq] at q; exact absurd q.2.1 (by decide))
          refine hK.out _ _ (HS.out _ b54) (fun hHeld => ?_)
          clear hK K
          (try simp only [Act.put, List.getElem_toArray, List.getElem_cons_succ, List.getElem_cons_zero, List.setIfInBounds_toArray, List.set_cons_zero, List.set_cons_succ])
          refine wpAnyH_ready (rs := [7]) (by kernel_rfl) (by simp) ?_
          refine AllReadyH.cons rfl (fun K hK => ?_) AllReadyH.nil
          obtain ⟨_, _, e55, rr55, _⟩ := RowAt.of_owns r54
          cases e55
          go_simp
          refine (HDE.out _ _ _ (by rw [List.map_append]; exact rr55) (ownsRow_cap0 r54) (ownsRow_len_cap r54)).mono ?_
          rintro _ y55 ⟨ea, ec, wy, rfl, hE55, bs55⟩
          have b55 : Below w3.heap.size w3 y55 := Below.trans b54 (bs55.mono le54)
          have le55 : w3.heap.size ≤ y55.heap.size := b55.size
          have hE55_l := hE55.lt
          have dE55 : ∀ x, (y54.heap.size ≤ x ∧ x < y55.heap.size) → ¬ x = g46 := fun x hx => by have := heap_lt x46_52_53_54; omega
          have x46_52_53_54_55 := (bs55.block _ (heap_lt x46_52_53_54)).trans x46_52_53_54
          refine hK.out _ _ (HS.out _ b55) (fun hHeld => ?_)
          clear hK K
          (try simp only [Act.put, List.getElem_toArray, List.getElem_cons_succ, List.getElem_cons_zero, List.setIfInBounds_toArray, List.set_cons_zero, List.set_cons_succ])
          refine wpAnyH_take (i := 8) (v := ?_) rfl (by kernel_rfl) (by kernel_rfl) (by kernel_rfl) (fun _ _ _ h => h) (Or.inl ⟨by rfl, ?_⟩) hHeld ?_
          rotate_left
          · intro w hSw; (try dsimp only at hSw); go_simp
            all_goals (with_reducible rfl)
          (try simp only [Act.put, List.getElem_toArray, List.getElem_cons_succ, List.getElem_cons_zero, List.setIfInBounds_toArray, List.set_cons_zero, List.set_cons_succ])
          refine wpAnyH_take (i := 9) (v := ?_) rfl (by kernel_rfl) (by kernel_rfl) (by kernel_rfl) (fun _ _ _ h => h) (Or.inl ⟨by rfl, ?_⟩) hHeld ?_
          rotate_left
          · intro w hSw; (try dsimp only at hSw); go_simp
            all_goals (with_reducible rfl)
          (try simp only [Act.put, List.getElem_toArray, List.getElem_cons_succ, List.getElem_cons_zero, List.setIfInBounds_toArray, List.set_cons_zero, List.set_cons_succ])
          refine wpAnyH_take (i := 10) (v := ?_) rfl (by kernel_rfl) (by kernel_rfl) (by kernel_rfl) (fun _ _ _ h => h) (Or.inl ⟨by rfl, ?_⟩) hHeld ?_
          rotate_left
          · intro w hSw; (try dsimp only at hSw); go_simp
            all_goals (with_reducible rfl)
          (try simp only [Act.put, List.getElem_toArray, List.getElem_cons_succ, List.getElem_cons_zero, List.setIfInBounds_toArray, List.set_cons_zero, List.set_cons_succ])
          refine wpAnyH_ready (rs := [12]) (by kernel_rfl) (by simp) ?_
          refine AllReadyH.cons rfl (fun K hK => ?_) AllReadyH.nil
          have z56_0 := frozen_of_heap (i := 0) x46_52_53_54_55
          have z56_1 := frozen_of_heap (i := 1) x46_52_53_54_55
          have z56_2 := frozen_of_heap (i := 2) x46_52_53_54_55
          have z56_3 := frozen_of_heap (i := 3) x46_52_53_54_55
          have z56_4 := frozen_of_heap (i := 4) x46_52_53_54_55
          have k56_0 := cell_of_heap x46_52_53_54_55 (i := 0) (v := .int .i64 0) (by rfl)
          have k56_1 := cell_of_heap x46_52_53_54_55 (i := 1) (v := .slice none 0 0) (by rfl)
          have k56_2 := cell_of_heap x46_52_53_54_55 (i := 2) (v := .int .i64 0) (by rfl)
          have k56_3 := cell_of_heap x46_52_53_54_55 (i := 3) (v := .int .i64 0) (by rfl)
          have k56_4 := cell_of_heap x46_52_53_54_55 (i := 4) (v := .int .i64 0) (by rfl)
          go_simp
          obtain ⟨y56, hw56, x56, hc56⟩ := set5 (x := .int .i64 (n : Int)) (y := .slice ea LA.length ec) (z := .int .i64 (V.length : Int)) (u := .int .i64 ((V.length : Int) + 3)) (v := .int .i64 wy) x46_52_53_54_55
          rw [hw56]
          have b56 : Below w3.heap.size w3 y56 := Below.trans b55 (hc56.belowLo6 le55 (fun x e => by subst e; exact ge46))
          have hE56 := hE55_l.kept (R' := fun _ => True) hc56 (fun x hx e => dE55 x hx e) (fun _ _ => trivial)
          refine hK.out _ _ (HS.out _ b56) (fun hHeld => ?_)
          clear hK K
          (try simp only [Act.put, List.getElem_toArray, List.getElem_cons_succ, List.getElem_cons_zero, List.setIfInBounds_toArray, List.set_cons_zero, List.set_cons_succ])
          refine wpAnyH_take (i := 13) (v := ?_) rfl (by kernel_rfl) (by kernel_rfl) (by kernel_rfl) (fun _ _ _ h => h) (Or.inl ⟨by rfl, ?_⟩) hHeld ?_
          rotate_left
          · intro w hSw; (try dsimp only at hSw); go_simp
            all_goals (with_reducible rfl)
          (try simp only [Act.put, List.getElem_toArray, List.getElem_cons_succ, List.getElem_cons_zero, List.setIfInBounds_toArray, List.set_cons_zero, List.set_cons_succ])
          refine wpAnyH_done (by kernel_rfl) ?_ _
          clear hHeld
          go_wp2_with fail
          go_meet
          case rel =>
            obtain ⟨_, _, eq9, at9⟩ := hE56.at_
            cases eq9
            exact ⟨_, ea, ec, wy, rfl, rfl, x56, at9, b56, ge46⟩
    · go_simp
      obtain ⟨y57, hw57⟩ : ∃ z, (w3.alloc (.cells #[.int .u8 0, .int .u8 0, .int .u8 0] 5)).drew = z := ⟨_, rfl⟩
      obtain ⟨g57, hg57⟩ : ∃ z, w3.heap.size = z := ⟨_, rfl⟩
      have x57 : y57.heap[g57]? = some (.cells #[.int .u8 0, .int .u8 0, .int .u8 0] 5 (0, 0)) := by rw [← hw57, ← hg57]; exact World.alloc_heap_new _ _
      have bs57 : Below w3.heap.size w3 y57 := by rw [← hw57]; exact (below_alloc w3 _).drew
      have b57 : Below w3.heap.size w3 y57 := Below.trans (Below.refl w3.heap.size w3) (bs57.mono (Nat.le_refl w3.heap.size))
      have le57 : w3.heap.size ≤ y57.heap.size := b57.size
      have ge57 : w3.heap.size ≤ g57 := by rw [← hg57]; exact (Nat.le_refl w3.heap.size)
      rw [hw57, hg57]
      clear hw57 hg57 bs57
      refine hK.out _ _ (HS.out _ b57) (fun hHeld => ?_)
      clear hK K
      (try simp only [Act.put, List.getElem_toArray, List.getElem_cons_succ, List.getElem_cons_zero, List.setIfInBounds_toArray, List.set_cons_zero, List.set_cons_succ])
      refine wpAnyH_ready (rs := [2, 11]) (by kernel_rfl) (by simp) ?_
      refine AllReadyH.cons rfl (fun K hK => ?_) (AllReadyH.cons rfl (fun K hK => ?_) AllReadyH.nil)
      · go_simp
        obtain ⟨y58, hw58⟩ : ∃ z, (y57.alloc (.cells #[] 5)) = z := ⟨_, rfl⟩
        obtain ⟨g58, hg58⟩ : ∃ z, y57.heap.size = z := ⟨_, rfl⟩
        have x58 : y58.heap[g58]? = some (.cells #[] 5 (0, 0)) := by rw [← hw58, ← hg58]; exact World.alloc_heap_new _ _
        have bs58 : Below y57.heap.size y57 y58 := by rw [← hw58]; exact below_alloc _ _
        have b58 : Below w3.heap.size w3 y58 := Below.trans b57 (bs58.mono le57)
        have le58 : w3.heap.size ≤ y58.heap.size := b58.size
        have ge58 : w3.heap.size ≤ g58 := by rw [← hg58]; exact le57
        have n58_Z : ¬ g57 = g58 := by have := heap_lt x57; omega
        have x57_58 := (bs58.block _ (heap_lt x57)).trans x57
        rw [hw58, hg58]
        clear hw58 hg58 bs58
        refine hK.out _ _ (HS.out _ b58) (fun hHeld => ?_)
        clear hK K
        (try simp only [Act.put, List.getElem_toArray, List.getElem_cons_succ, List.getElem_cons_zero, List.setIfInBounds_toArray, List.set_cons_zero, List.set_cons_succ])
        refine wpAnyH_ready (rs := [4, 11]) (by kernel_rfl) (by simp) ?_
        refine AllReadyH.cons rfl (fun K hK => ?_) (AllReadyH.cons rfl (fun K hK => ?_) AllReadyH.nil)
        · have q59 := row_of_block x58 (n := 0) rfl (by decide)
          refine wp_append_segsrc (.tmp 63) (.tmp 64) 26 rfl 0 5 i0 (.int .u8 0) 1 Tryz.underlying26 hi hz0 hz1 hz2 rfl _ 0 [] rfl q59 ua V.length uc (V.map bv) rfl (by simp) un (UR.out.below b58) (by intro u hu; obtain ⟨_, _, rfl⟩ := List.mem_map.1 hu; rfl) (by omega) (by omega) (Nat.zero_le _) ?_
          intro v59 y59 r59 G59
          rw [Nat.zero_add, List.nil_append] at r59
          obtain ⟨a59, c59, rfl, _, _⟩ := RowAt.of_owns r59
          have b59 : Below w3.heap.size w3 y59 := Below.trans b58 (G59.1.belowLo6 le58 (fun x e => by cases e; exact ge58))
          have le59 : w3.heap.size ≤ y59.heap.size := b59.size
          have ho59 : ∀ x, (Value.slice a59 (V.length) c59).ownBlock = some x → w3.heap.size ≤ x := fun x e => by
            rcases G59.2 with q | ⟨g', q, hge⟩
            · rw [q] at e; cases e; exact ge58
            · rw [q] at e; cases e; have := le58; omega
          have x57_58_59 := G59.1.obj x57_58 (fun e => absurd (Option.some.inj (show some g58 = some g57 from e)) (fun e => n58_Z e.symm))
          refine hK.out _ _ (HS.out _ b59) (fun hHeld => ?_)
          clear hK K
          (try simp only [Act.put, List.getElem_toArray, List.getElem_cons_succ, List.getElem_cons_zero, List.setIfInBounds_toArray, List.set_cons_zero, List.set_cons_succ])
          refine wpAnyH_ready (rs := [6, 11]) (by kernel_rfl) (by simp) ?_
          refine AllReadyH.cons rfl (fun K hK => ?_) (AllReadyH.cons rfl (fun K hK => ?_) AllReadyH.nil)
          · have nzy59 : RowAt y59 (some ⟨g57, 0, none⟩) [.int .u8 0, .int .u8 0, .int .u8 0] := by obtain ⟨_, _, e, h, _⟩ := RowAt.of_owns (row_of_block x57_58_59 (n := 3) rfl (by decide)); cases e; exact h
            refine wp_append_segsrc (.tmp 65) (.tmp 66) 26 rfl 0 5 i0 (.int .u8 0) 1 Tryz.underlying26 hi hz0 hz1 hz2 rfl _ V.length _ rfl r59 (some ⟨g57, 0, none⟩) 3 3 [.int .u8 0, .int .u8 0, .int .u8 0] rfl rfl (fun e => by cases e) (nzy59) (by simp [Value.oneCell']) (by omega) (by omega) (Nat.zero_le _) ?_
            intro v60 y60 r60 G60
            obtain ⟨a60, c60, rfl, _, _⟩ := RowAt.of_owns r60
            have b60 : Below w3.heap.size w3 y60 := Below.trans b59 (G60.1.belowLo6 le59 (fun x e => ho59 x e))
            have le60 : w3.heap.size ≤ y60.heap.size := b60.size
            have ho60 : ∀ x, (Value.slice a60 (V.length + 3) c60).ownBlock = some x → w3.heap.size ≤ x := fun x e => by
              rcases G60.2 with q | ⟨g', q, hge⟩
              · rw [q] at e; exact ho59 x e
              · rw [q] at e; cases e; have := le59; omega
            refine hK.out _ _ (HS.out _ b60) (fun hHeld => ?_)
            clear hK K
            (try simp only [Act.put, List.getElem_toArray, List.getElem_cons_succ, List.getElem_cons_zero, List.setIfInBounds_toArray, List.set_cons_zero, List.set_cons_succ])
            refine wpAnyH_ready (rs := [7, 11]) (by kernel_rfl) (by simp) ?_
            refine AllReadyH.cons rfl (fun K hK => ?_) (AllReadyH.cons rfl (fun K hK => ?_) AllReadyH.nil)
            · obtain ⟨_, _, e61, rr61, _⟩ := RowAt.of_owns r60
              cases e61
              go_simp
              refine (HDE.out _ _ _ (by rw [List.map_append]; exact rr61) (ownsRow_cap0 r60) (ownsRow_len_cap r60)).mono ?_
              rintro _ y61 ⟨ea, ec, wy, rfl, hE61, bs61⟩
              have b61 : Below w3.heap.size w3 y61 := Below.trans b60 (bs61.mono le60)
              have le61 : w3.heap.size ≤ y61.heap.size := b61.size
              have hE61_l := hE61.lt
              refine hK.out _ _ (HS.out _ b61) (fun hHeld => ?_)
              clear hK K
              (try simp only [Act.put, List.getElem_toArray, List.getElem_cons_succ, List.getElem_cons_zero, List.setIfInBounds_toArray, List.set_cons_zero, List.set_cons_succ])
              refine wpAnyH_take (i := 8) (v := ?_) rfl (by kernel_rfl) (by kernel_rfl) (by kernel_rfl) (fun _ _ _ h => h) (Or.inl ⟨by rfl, ?_⟩) hHeld ?_
              rotate_left
              · intro w hSw; (try dsimp only at hSw); go_simp
                all_goals (with_reducible rfl)
              (try simp only [Act.put, List.getElem_toArray, List.getElem_cons_succ, List.getElem_cons_zero, List.setIfInBounds_toArray, List.set_cons_zero, List.set_cons_succ])
              refine wpAnyH_take (i := 9) (v := ?_) rfl (by kernel_rfl) (by kernel_rfl) (by kernel_rfl) (fun _ _ _ h => h) (Or.inl ⟨by rfl, ?_⟩) hHeld ?_
              rotate_left
              · intro w hSw; (try dsimp only at hSw); go_simp
                all_goals (with_reducible rfl)
              (try simp only [Act.put, List.getElem_toArray, List.getElem_cons_succ, List.getElem_cons_zero, List.setIfInBounds_toArray, List.set_cons_zero, List.set_cons_succ])
              refine wpAnyH_take (i := 10) (v := ?_) rfl (by kernel_rfl) (by kernel_rfl) (by kernel_rfl) (fun _ _ _ h => h) (Or.inl ⟨by rfl, ?_⟩) hHeld ?_
              rotate_left
              · intro w hSw; (try dsimp only at hSw); go_simp
                all_goals (with_reducible rfl)
              (try simp only [Act.put, List.getElem_toArray, List.getElem_cons_succ, List.getElem_cons_zero, List.setIfInBounds_toArray, List.set_cons_zero, List.set_cons_succ])
              refine wpAnyH_ready (rs := [11]) (by kernel_rfl) (by simp) ?_
              refine AllReadyH.cons rfl (fun K hK => ?_) AllReadyH.nil
              go_simp
              obtain ⟨y62, hw62⟩ : ∃ z, (y61.alloc (.cells #[.int .i64 0, .slice none 0 0, .int .i64 0, .int .i64 0, .int .i64 0] 42)) = z := ⟨_, rfl⟩
              obtain ⟨g62, hg62⟩ : ∃ z, y61.heap.size = z := ⟨_, rfl⟩
              have x62 : y62.heap[g62]? = some (.cells #[.int .i64 0, .slice none 0 0, .int .i64 0, .int .i64 0, .int .i64 0] 42 (0, 0)) := by rw [← hw62, ← hg62]; exact World.alloc_heap_new _ _
              have bs62 : Below y61.heap.size y61 y62 := by rw [← hw62]; exact below_alloc _ _
              have b62 : Below w3.heap.size w3 y62 := Below.trans b61 (bs62.mono le61)
              have le62 : w3.heap.size ≤ y62.heap.size := b62.size
              have ge62 : w3.heap.size ≤ g62 := by rw [← hg62]; exact le61
              have hE61_l_62 := hE61_l.below bs62
              have dE62 : ∀ x, (y60.heap.size ≤ x ∧ x < y61.heap.size) → ¬ x = g62 := fun x hx => by have := hx.2; omega
              rw [hw62, hg62]
              clear hw62 hg62 bs62
              refine hK.out _ _ (HS.out _ b62) (fun hHeld => ?_)
              clear hK K
              (try simp only [Act.put, List.getElem_toArray, List.getElem_cons_succ, List.getElem_cons_zero, List.setIfInBounds_toArray, List.set_cons_zero, List.set_cons_succ])
              refine wpAnyH_ready (rs := [12]) (by kernel_rfl) (by simp) ?_
              refine AllReadyH.cons rfl (fun K hK => ?_) AllReadyH.nil
              have z63_0 := frozen_of_heap (i := 0) x62
              have z63_1 := frozen_of_heap (i := 1) x62
              have z63_2 := frozen_of_heap (i := 2) x62
              have z63_3 := frozen_of_heap (i := 3) x62
              have z63_4 := frozen_of_heap (i := 4) x62
              have k63_0 := cell_of_heap x62 (i := 0) (v := .int .i64 0) (by rfl)
              have k63_1 := cell_of_heap x62 (i := 1) (v := .slice none 0 0) (by rfl)
              have k63_2 := cell_of_heap x62 (i := 2) (v := .int .i64 0) (by rfl)
              have k63_3 := cell_of_heap x62 (i := 3) (v := .int .i64 0) (by rfl)
              have k63_4 := cell_of_heap x62 (i := 4) (v := .int .i64 0) (by rfl)
              go_simp
              obtain ⟨y63, hw63, x63, hc63⟩ := set5 (x := .int .i64 (n : Int)) (y := .slice ea LA.length ec) (z := .int .i64 (V.length : Int)) (u := .int .i64 ((V.length : Int) + 3)) (v := .int .i64 wy) x62
              rw [hw63]
              have b63 : Below w3.heap.size w3 y63 := Below.trans b62 (hc63.belowLo6 le62 (fun x e => by subst e; exact ge62))
              have hE63 := hE61_l_62.kept (R' := fun _ => True) hc63 (fun x hx e => dE62 x hx e) (fun _ _ => trivial)
              refine hK.out _ _ (HS.out _ b63) (fun hHeld => ?_)
              clear hK K
              (try simp only [Act.put, List.getElem_toArray, List.getElem_cons_succ, List.getElem_cons_zero, List.setIfInBounds_toArray, List.set_cons_zero, List.set_cons_succ])
              refine wpAnyH_take (i := 13) (v := ?_) rfl (by kernel_rfl) (by kernel_rfl) (by kernel_rfl) (fun _ _ _ h => h) (Or.inl ⟨by rfl, ?_⟩) hHeld ?_
              rotate_left
              · intro w hSw; (try dsimp only at hSw); go_simp
                all_goals (with_reducible rfl)
              (try simp only [Act.put, List.getElem_toArray, List.getElem_cons_succ, List.getElem_cons_zero, List.setIfInBounds_toArray, List.set_cons_zero, List.set_cons_succ])
              refine wpAnyH_done (by kernel_rfl) ?_ _
              clear hHeld
              go_wp2_with fail
              go_meet
              case rel =>
                obtain ⟨_, _, eq9, at9⟩ := hE63.at_
                cases eq9
                exact ⟨_, ea, ec, wy, rfl, rfl, x63, at9, b63, ge62⟩
            · go_simp
              obtain ⟨y64, hw64⟩ : ∃ z, (y60.alloc (.cells #[.int .i64 0, .slice none 0 0, .int .i64 0, .int .i64 0, .int .i64 0] 42)) = z := ⟨_, rfl⟩
              obtain ⟨g64, hg64⟩ : ∃ z, y60.heap.size = z := ⟨_, rfl⟩
              have x64 : y64.heap[g64]? = some (.cells #[.int .i64 0, .slice none 0 0, .int .i64 0, .int .i64 0, .int .i64 0] 42 (0, 0)) := by rw [← hw64, ← hg64]; exact World.alloc_heap_new _ _
              have bs64 : Below y60.heap.size y60 y64 := by rw [← hw64]; exact below_alloc _ _
              have b64 : Below w3.heap.size w3 y64 := Below.trans b60 (bs64.mono le60)
              have le64 : w3.heap.size ≤ y64.heap.size := b64.size
              have ge64 : w3.heap.size ≤ g64 := by rw [← hg64]; exact le60
              have r60_64 := (Chg.of_below (O := fun _ => False) bs64).row r60 (fun _ _ h => h)
              rw [hw64, hg64]
              clear hw64 hg64 bs64
              refine hK.out _ _ (HS.out _ b64) (fun hHeld => ?_)
              clear hK K
              (try simp only [Act.put, List.getElem_toArray, List.getElem_cons_succ, List.getElem_cons_zero, List.setIfInBounds_toArray, List.set_cons_zero, List.set_cons_succ])
              refine wpAnyH_ready (rs := [7]) (by kernel_rfl) (by simp) ?_
              refine AllReadyH.cons rfl (fun K hK => ?_) AllReadyH.nil
              obtain ⟨_, _, e65, rr65, _⟩ := RowAt.of_owns r60_64
              cases e65
              go_simp
              refine (HDE.out _ _ _ (by rw [List.map_append]; exact rr65) (ownsRow_cap0 r60_64) (ownsRow_len_cap r60_64)).mono ?_
              rintro _ y65 ⟨ea, ec, wy, rfl, hE65, bs65⟩
              have b65 : Below w3.heap.size w3 y65 := Below.trans b64 (bs65.mono le64)
              have le65 : w3.heap.size ≤ y65.heap.size := b65.size
              have hE65_l := hE65.lt
              have dE65 : ∀ x, (y64.heap.size ≤ x ∧ x < y65.heap.size) → ¬ x = g64 := fun x hx => by have := heap_lt x64; omega
              have x64_65 := (bs65.block _ (heap_lt x64)).trans x64
              refine hK.out _ _ (HS.out _ b65) (fun hHeld => ?_)
              clear hK K
              (try simp only [Act.put, List.getElem_toArray, List.getElem_cons_succ, List.getElem_cons_zero, List.setIfInBounds_toArray, List.set_cons_zero, List.set_cons_succ])
              refine wpAnyH_take (i := 8) (v := ?_) rfl (by kernel_rfl) (by kernel_rfl) (by kernel_rfl) (fun _ _ _ h => h) (Or.inl ⟨by rfl, ?_⟩) hHeld ?_
              rotate_left
              · intro w hSw; (try dsimp only at hSw); go_simp
                all_goals (with_reducible rfl)
              (try simp only [Act.put, List.getElem_toArray, List.getElem_cons_succ, List.getElem_cons_zero, List.setIfInBounds_toArray, List.set_cons_zero, List.set_cons_succ])
              refine wpAnyH_take (i := 9) (v := ?_) rfl (by kernel_rfl) (by kernel_rfl) (by kernel_rfl) (fun _ _ _ h => h) (Or.inl ⟨by rfl, ?_⟩) hHeld ?_
              rotate_left
              · intro w hSw; (try dsimp only at hSw); go_simp
                all_goals (with_reducible rfl)
              (try simp only [Act.put, List.getElem_toArray, List.getElem_cons_succ, List.getElem_cons_zero, List.setIfInBounds_toArray, List.set_cons_zero, List.set_cons_succ])
              refine wpAnyH_take (i := 10) (v := ?_) rfl (by kernel_rfl) (by kernel_rfl) (by kernel_rfl) (fun _ _ _ h => h) (Or.inl ⟨by rfl, ?_⟩) hHeld ?_
              rotate_left
              · intro w hSw; (try dsimp only at hSw); go_simp
                all_goals (with_reducible rfl)
              (try simp only [Act.put, List.getElem_toArray, List.getElem_cons_succ, List.getElem_cons_zero, List.setIfInBounds_toArray, List.set_cons_zero, List.set_cons_succ])
              refine wpAnyH_ready (rs := [12]) (by kernel_rfl) (by simp) ?_
              refine AllReadyH.cons rfl (fun K hK => ?_) AllReadyH.nil
              have z66_0 := frozen_of_heap (i := 0) x64_65
              have z66_1 := frozen_of_heap (i := 1) x64_65
              have z66_2 := frozen_of_heap (i := 2) x64_65
              have z66_3 := frozen_of_heap (i := 3) x64_65
              have z66_4 := frozen_of_heap (i := 4) x64_65
              have k66_0 := cell_of_heap x64_65 (i := 0) (v := .int .i64 0) (by rfl)
              have k66_1 := cell_of_heap x64_65 (i := 1) (v := .slice none 0 0) (by rfl)
              have k66_2 := cell_of_heap x64_65 (i := 2) (v := .int .i64 0) (by rfl)
              have k66_3 := cell_of_heap x64_65 (i := 3) (v := .int .i64 0) (by rfl)
              have k66_4 := cell_of_heap x64_65 (i := 4) (v := .int .i64 0) (by rfl)
              go_simp
              obtain ⟨y66, hw66, x66, hc66⟩ := set5 (x := .int .i64 (n : Int)) (y := .slice ea LA.length ec) (z := .int .i64 (V.length : Int)) (u := .int .i64 ((V.length : Int) + 3)) (v := .int .i64 wy) x64_65
              rw [hw66]
              have b66 : Below w3.heap.size w3 y66 := Below.trans b65 (hc66.belowLo6 le65 (fun x e => by subst e; exact ge64))
              have hE66 := hE65_l.kept (R' := fun _ => True) hc66 (fun x hx e => dE65 x hx e) (fun _ _ => trivial)
              refine hK.out _ _ (HS.out _ b66) (fun hHeld => ?_)
              clear hK K
              (try simp only [Act.put, List.getElem_toArray, List.getElem_cons_succ, List.getElem_cons_zero, List.setIfInBounds_toArray, List.set_cons_zero, List.set_cons_succ])
              refine wpAnyH_take (i := 13) (v := ?_) rfl (by kernel_rfl) (by kernel_rfl) (by kernel_rfl) (fun _ _ _ h => h) (Or.inl ⟨by rfl, ?_⟩) hHeld ?_
              rotate_left
              · intro w hSw; (try dsimp only at hSw); go_simp
                all_goals (with_reducible rfl)
              (try simp only [Act.put, List.getElem_toArray, List.getElem_cons_succ, List.getElem_cons_zero, List.setIfInBounds_toArray, List.set_cons_zero, List.set_cons_succ])
              refine wpAnyH_done (by kernel_rfl) ?_ _
              clear hHeld
              go_wp2_with fail
              go_meet
              case rel =>
                obtain ⟨_, _, eq9, at9⟩ := hE66.at_
                cases eq9
                exact ⟨_, ea, ec, wy, rfl, rfl, x66, at9, b66, ge64⟩
          · go_simp
            obtain ⟨y67, hw67⟩ : ∃ z, (y59.alloc (.cells #[.int .i64 0, .slice none 0 0, .int .i64 0, .int .i64 0, .int .i64 0] 42)) = z := ⟨_, rfl⟩
            obtain ⟨g67, hg67⟩ : ∃ z, y59.heap.size = z := ⟨_, rfl⟩
            have x67 : y67.heap[g67]? = some (.cells #[.int .i64 0, .slice none 0 0, .int .i64 0, .int .i64 0, .int .i64 0] 42 (0, 0)) := by rw [← hw67, ← hg67]; exact World.alloc_heap_new _ _
            have bs67 : Below y59.heap.size y59 y67 := by rw [← hw67]; exact below_alloc _ _
            have b67 : Below w3.heap.size w3 y67 := Below.trans b59 (bs67.mono le59)
            have le67 : w3.heap.size ≤ y67.heap.size := b67.size
            have ge67 : w3.heap.size ≤ g67 := by rw [← hg67]; exact le59
            have n67_Z : ¬ g57 = g67 := by have := heap_lt x57_58_59; omega
            have x57_58_59_67 := (bs67.block _ (heap_lt x57_58_59)).trans x57_58_59
            have r59_67 := (Chg.of_below (O := fun _ => False) bs67).row r59 (fun _ _ h => h)
            rw [hw67, hg67]
            clear hw67 hg67 bs67
            refine hK.out _ _ (HS.out _ b67) (fun hHeld => ?_)
            clear hK K
            (try simp only [Act.put, List.getElem_toArray, List.getElem_cons_succ, List.getElem_cons_zero, List.setIfInBounds_toArray, List.set_cons_zero, List.set_cons_succ])
            refine wpAnyH_ready (rs := [6]) (by kernel_rfl) (by simp) ?_
            refine AllReadyH.cons rfl (fun K hK => ?_) AllReadyH.nil
            have nzy67 : RowAt y67 (some ⟨g57, 0, none⟩) [.int .u8 0, .int .u8 0, .int .u8 0] := by obtain ⟨_, _, e, h, _⟩ := RowAt.of_owns (row_of_block x57_58_59_67 (n := 3) rfl (by decide)); cases e; exact h
            refine wp_append_segsrc (.tmp 65) (.tmp 66) 26 rfl 0 5 i0 (.int .u8 0) 1 Tryz.underlying26 hi hz0 hz1 hz2 rfl _ V.length _ rfl r59_67 (some ⟨g57, 0, none⟩) 3 3 [.int .u8 0, .int .u8 0, .int .u8 0] rfl rfl (fun e => by cases e) (nzy67) (by simp [Value.oneCell']) (by omega) (by omega) (Nat.zero_le _) ?_
            intro v68 y68 r68 G68
            obtain ⟨a68, c68, rfl, _, _⟩ := RowAt.of_owns r68
            have b68 : Below w3.heap.size w3 y68 := Below.trans b67 (G68.1.belowLo6 le67 (fun x e => ho59 x e))
            have le68 : w3.heap.size ≤ y68.heap.size := b68.size
            have ho68 : ∀ x, (Value.slice a68 (V.length + 3) c68).ownBlock = some x → w3.heap.size ≤ x := fun x e => by
              rcases G68.2 with q | ⟨g', q, hge⟩
              · rw [q] at e; exact ho59 x e
              · rw [q] at e; cases e; have := le67; omega
            have x67_68 := G68.1.obj x67 (fun e => by obtain ⟨_, _, q⟩ := ownsRow_ty r59_67 e; rw [x67] at q; simp only [Option.some.injEq, Obj.cells.injEq] at q; exact absurd q.2.1 (by decide))
            refine hK.out _ _ (HS.out _ b68) (fun hHeld => ?_)
            clear hK K
            (try simp only [Act.put, List.getElem_toArray, List.getElem_cons_succ, List.getElem_cons_zero, List.setIfInBounds_toArray, List.set_cons_zero, List.set_cons_succ])
            refine wpAnyH_ready (rs := [7]) (by kernel_rfl) (by simp) ?_
            refine AllReadyH.cons rfl (fun K hK => ?_) AllReadyH.nil
            obtain ⟨_, _, e69, rr69, _⟩ := RowAt.of_owns r68
            cases e69
            go_simp
            refine (HDE.out _ _ _ (by rw [List.map_append]; exact rr69) (ownsRow_cap0 r68) (ownsRow_len_cap r68)).mono ?_
            rintro _ y69 ⟨ea, ec, wy, rfl, hE69, bs69⟩
            have b69 : Below w3.heap.size w3 y69 := Below.trans b68 (bs69.mono le68)
            have le69 : w3.heap.size ≤ y69.heap.size := b69.size
            have hE69_l := hE69.lt
            have dE69 : ∀ x, (y68.heap.size ≤ x ∧ x < y69.heap.size) → ¬ x = g67 := fun x hx => by have := heap_lt x67_68; omega
            have x67_68_69 := (bs69.block _ (heap_lt x67_68)).trans x67_68
            refine hK.out _ _ (HS.out _ b69) (fun hHeld => ?_)
            clear hK K
            (try simp only [Act.put, List.getElem_toArray, List.getElem_cons_succ, List.getElem_cons_zero, List.setIfInBounds_toArray, List.set_cons_zero, List.set_cons_succ])
            refine wpAnyH_take (i := 8) (v := ?_) rfl (by kernel_rfl) (by kernel_rfl) (by kernel_rfl) (fun _ _ _ h => h) (Or.inl ⟨by rfl, ?_⟩) hHeld ?_
            rotate_left
            · intro w hSw; (try dsimp only at hSw); go_simp
              all_goals (with_reducible rfl)
            (try simp only [Act.put, List.getElem_toArray, List.getElem_cons_succ, List.getElem_cons_zero, List.setIfInBounds_toArray, List.set_cons_zero, List.set_cons_succ])
            refine wpAnyH_take (i := 9) (v := ?_) rfl (by kernel_rfl) (by kernel_rfl) (by kernel_rfl) (fun _ _ _ h => h) (Or.inl ⟨by rfl, ?_⟩) hHeld ?_
            rotate_left
            · intro w hSw; (try dsimp only at hSw); go_simp
              all_goals (with_reducible rfl)
            (try simp only [Act.put, List.getElem_toArray, List.getElem_cons_succ, List.getElem_cons_zero, List.setIfInBounds_toArray, List.set_cons_zero, List.set_cons_succ])
            refine wpAnyH_take (i := 10) (v := ?_) rfl (by kernel_rfl) (by kernel_rfl) (by kernel_rfl) (fun _ _ _ h => h) (Or.inl ⟨by rfl, ?_⟩) hHeld ?_
            rotate_left
            · intro w hSw; (try dsimp only at hSw); go_simp
              all_goals (with_reducible rfl)
            (try simp only [Act.put, List.getElem_toArray, List.getElem_cons_succ, List.getElem_cons_zero, List.setIfInBounds_toArray, List.set_cons_zero, List.set_cons_succ])
            refine wpAnyH_ready (rs := [12]) (by kernel_rfl) (by simp) ?_
            refine AllReadyH.cons rfl (fun K hK => ?_) AllReadyH.nil
            have z70_0 := frozen_of_heap (i := 0) x67_68_69
            have z70_1 := frozen_of_heap (i := 1) x67_68_69
            have z70_2 := frozen_of_heap (i := 2) x67_68_69
            have z70_3 := frozen_of_heap (i := 3) x67_68_69
            have z70_4 := frozen_of_heap (i := 4) x67_68_69
            have k70_0 := cell_of_heap x67_68_69 (i := 0) (v := .int .i64 0) (by rfl)
            have k70_1 := cell_of_heap x67_68_69 (i := 1) (v := .slice none 0 0) (by rfl)
            have k70_2 := cell_of_heap x67_68_69 (i := 2) (v := .int .i64 0) (by rfl)
            have k70_3 := cell_of_heap x67_68_69 (i := 3) (v := .int .i64 0) (by rfl)
            have k70_4 := cell_of_heap x67_68_69 (i := 4) (v := .int .i64 0) (by rfl)
            go_simp
            obtain ⟨y70, hw70, x70, hc70⟩ := set5 (x := .int .i64 (n : Int)) (y := .slice ea LA.length ec) (z := .int .i64 (V.length : Int)) (u := .int .i64 ((V.length : Int) + 3)) (v := .int .i64 wy) x67_68_69
            rw [hw70]
            have b70 : Below w3.heap.size w3 y70 := Below.trans b69 (hc70.belowLo6 le69 (fun x e => by subst e; exact ge67))
            have hE70 := hE69_l.kept (R' := fun _ => True) hc70 (fun x hx e => dE69 x hx e) (fun _ _ => trivial)
            refine hK.out _ _ (HS.out _ b70) (fun hHeld => ?_)
            clear hK K
            (try simp only [Act.put, List.getElem_toArray, List.getElem_cons_succ, List.getElem_cons_zero, List.setIfInBounds_toArray, List.set_cons_zero, List.set_cons_succ])
            refine wpAnyH_take (i := 13) (v := ?_) rfl (by kernel_rfl) (by kernel_rfl) (by kernel_rfl) (fun _ _ _ h => h) (Or.inl ⟨by rfl, ?_⟩) hHeld ?_
            rotate_left
            · intro w hSw; (try dsimp only at hSw); go_simp
              all_goals (with_reducible rfl)
            (try simp only [Act.put, List.getElem_toArray, List.getElem_cons_succ, List.getElem_cons_zero, List.setIfInBounds_toArray, List.set_cons_zero, List.set_cons_succ])
            refine wpAnyH_done (by kernel_rfl) ?_ _
            clear hHeld
            go_wp2_with fail
            go_meet
            case rel =>
              obtain ⟨_, _, eq9, at9⟩ := hE70.at_
              cases eq9
              exact ⟨_, ea, ec, wy, rfl, rfl, x70, at9, b70, ge67⟩
        · go_simp
          obtain ⟨y71, hw71⟩ : ∃ z, (y58.alloc (.cells #[.int .i64 0, .slice none 0 0, .int .i64 0, .int .i64 0, .int .i64 0] 42)) = z := ⟨_, rfl⟩
          obtain ⟨g71, hg71⟩ : ∃ z, y58.heap.size = z := ⟨_, rfl⟩
          have x71 : y71.heap[g71]? = some (.cells #[.int .i64 0, .slice none 0 0, .int .i64 0, .int .i64 0, .int .i64 0] 42 (0, 0)) := by rw [← hw71, ← hg71]; exact World.alloc_heap_new _ _
          have bs71 : Below y58.heap.size y58 y71 := by rw [← hw71]; exact below_alloc _ _
          have b71 : Below w3.heap.size w3 y71 := Below.trans b58 (bs71.mono le58)
          have le71 : w3.heap.size ≤ y71.heap.size := b71.size
          have ge71 : w3.heap.size ≤ g71 := by rw [← hg71]; exact le58
          have n71_Z : ¬ g57 = g71 := by have := heap_lt x57_58; omega
          have x57_58_71 := (bs71.block _ (heap_lt x57_58)).trans x57_58
          have n71_L : ¬ g58 = g71 := by have := heap_lt x58; omega
          have x58_71 := (bs71.block _ (heap_lt x58)).trans x58
          rw [hw71, hg71]
          clear hw71 hg71 bs71
          refine hK.out _ _ (HS.out _ b71) (fun hHeld => ?_)
          clear hK K
          (try simp only [Act.put, List.getElem_toArray, List.getElem_cons_succ, List.getElem_cons_zero, List.setIfInBounds_toArray, List.set_cons_zero, List.set_cons_succ])
          refine wpAnyH_ready (rs := [4]) (by kernel_rfl) (by simp) ?_
          refine AllReadyH.cons rfl (fun K hK => ?_) AllReadyH.nil
          have q72 := row_of_block x58_71 (n := 0) rfl (by decide)
          refine wp_append_segsrc (.tmp 63) (.tmp 64) 26 rfl 0 5 i0 (.int .u8 0) 1 Tryz.underlying26 hi hz0 hz1 hz2 rfl _ 0 [] rfl q72 ua V.length uc (V.map bv) rfl (by simp) un (UR.out.below b71) (by intro u hu; obtain ⟨_, _, rfl⟩ := List.mem_map.1 hu; rfl) (by omega) (by omega) (Nat.zero_le _) ?_
          intro v72 y72 r72 G72
          rw [Nat.zero_add, List.nil_append] at r72
          obtain ⟨a72, c72, rfl, _, _⟩ := RowAt.of_owns r72
          have b72 : Below w3.heap.size w3 y72 := Below.trans b71 (G72.1.belowLo6 le71 (fun x e => by cases e; exact ge58))
          have le72 : w3.heap.size ≤ y72.heap.size := b72.size
          have ho72 : ∀ x, (Value.slice a72 (V.length) c72).ownBlock = some x → w3.heap.size ≤ x := fun x e => by
            rcases G72.2 with q | ⟨g', q, hge⟩
            · rw [q] at e; cases e; exact ge58
            · rw [q] at e; cases e; have := le71; omega
          have x57_58_71_72 := G72.1.obj x57_58_71 (fun e => absurd (Option.some.inj (show some g58 = some g57 from e)) (fun e => n58_Z e.symm))
          have x71_72 := G72.1.obj x71 (fun e => by obtain ⟨_, _, q⟩ := ownsRow_ty q72 e; rw [x71] at q; simp only [Option.some.injEq, Obj.cells.injEq] at q; exact absurd q.2.1 (by decide))
          refine hK.out _ _ (HS.out _ b72) (fun hHeld => ?_)
          clear hK K
          (try simp only [Act.put, List.getElem_toArray, List.getElem_cons_succ, List.getElem_cons_zero, List.setIfInBounds_toArray, List.set_cons_zero, List.set_cons_succ])
          refine wpAnyH_ready (rs := [6]) (by kernel_rfl) (by simp) ?_
          refine AllReadyH.cons rfl (fun K hK => ?_) AllReadyH.nil
          have nzy72 : RowAt y72 (some ⟨g57, 0, none⟩) [.int .u8 0, .int .u8 0, .int .u8 0] := by obtain ⟨_, _, e, h, _⟩ := RowAt.of_owns (row_of_block x57_58_71_72 (n := 3) rfl (by decide)); cases e; exact h
          refine wp_append_segsrc (.tmp 65) (.tmp 66) 26 rfl 0 5 i0 (.int .u8 0) 1 Tryz.underlying26 hi hz0 hz1 hz2 rfl _ V.length _ rfl r72 (some ⟨g57, 0, none⟩) 3 3 [.int .u8 0, .int .u8 0, .int .u8 0] rfl rfl (fun e => by cases e) (nzy72) (by simp [Value.oneCell']) (by omega) (by omega) (Nat.zero_le _) ?_
          intro v73 y73 r73 G73
          obtain ⟨a73, c73, rfl, _, _⟩ := RowAt.of_owns r73
          have b73 : Below w3.heap.size w3 y73 := Below.trans b72 (G73.1.belowLo6 le72 (fun x e => ho72 x e))
          have le73 : w3.heap.size ≤ y73.heap.size := b73.size
          have ho73 : ∀ x, (Value.slice a73 (V.length + 3) c73).ownBlock = some x → w3.heap.size ≤ x := fun x e => by
            rcases G73.2 with q | ⟨g', q, hge⟩
            · rw [q] at e; exact ho72 x e
            · rw [q] at e; cases e; have := le72; omega
          have x71_72_73 := G73.1.obj x71_72 (fun e => by obtain ⟨_, _, q⟩ := ownsRow_ty r72 e; rw [x71_72] at q; simp only [Option.some.injEq, Obj.cells.injEq] at q; exact absurd q.2.1 (by decide))
          refine hK.out _ _ (HS.out _ b73) (fun hHeld => ?_)
          clear hK K
          (try simp only [Act.put, List.getElem_toArray, List.getElem_cons_succ, List.getElem_cons_zero, List.setIfInBounds_toArray, List.set_cons_zero, List.set_cons_succ])
          refine wpAnyH_ready (rs := [7]) (by kernel_rfl) (by simp) ?_
          refine AllReadyH.cons rfl (fun K hK => ?_) AllReadyH.nil
          obtain ⟨_, _, e74, rr74, _⟩ := RowAt.of_owns r73
          cases e74
          go_simp
          refine (HDE.out _ _ _ (by rw [List.map_append]; exact rr74) (ownsRow_cap0 r73) (ownsRow_len_cap r73)).mono ?_
          rintro _ y74 ⟨ea, ec, wy, rfl, hE74, bs74⟩
          have b74 : Below w3.heap.size w3 y74 := Below.trans b73 (bs74.mono le73)
          have le74 : w3.heap.size ≤ y74.heap.size := b74.size
          have hE74_l := hE74.lt
          have dE74 : ∀ x, (y73.heap.size ≤ x ∧ x < y74.heap.size) → ¬ x = g71 := fun x hx => by have := heap_lt x71_72_73; omega
          have x71_72_73_74 := (bs74.block _ (heap_lt x71_72_73)).trans x71_72_73
          refine hK.out _ _ (HS.out _ b74) (fun hHeld => ?_)
          clear hK K
          (try simp only [Act.put, List.getElem_toArray, List.getElem_cons_succ, List.getElem_cons_zero, List.setIfInBounds_toArray, List.set_cons_zero, List.set_cons_succ])
          refine wpAnyH_take (i := 8) (v := ?_) rfl (by kernel_rfl) (by kernel_rfl) (by kernel_rfl) (fun _ _ _ h => h) (Or.inl ⟨by rfl, ?_⟩) hHeld ?_
          rotate_left
          · intro w hSw; (try dsimp only at hSw); go_simp
            all_goals (with_reducible rfl)
          (try simp only [Act.put, List.getElem_toArray, List.getElem_cons_succ, List.getElem_cons_zero, List.setIfInBounds_toArray, List.set_cons_zero, List.set_cons_succ])
          refine wpAnyH_take (i := 9) (v := ?_) rfl (by kernel_rfl) (by kernel_rfl) (by kernel_rfl) (fun _ _ _ h => h) (Or.inl ⟨by rfl, ?_⟩) hHeld ?_
          rotate_left
          · intro w hSw; (try dsimp only at hSw); go_simp
            all_goals (with_reducible rfl)
          (try simp only [Act.put, List.getElem_toArray, List.getElem_cons_succ, List.getElem_cons_zero, List.setIfInBounds_toArray, List.set_cons_zero, List.set_cons_succ])
          refine wpAnyH_take (i := 10) (v := ?_) rfl (by kernel_rfl) (by kernel_rfl) (by kernel_rfl) (fun _ _ _ h => h) (Or.inl ⟨by rfl, ?_⟩) hHeld ?_
          rotate_left
          · intro w hSw; (try dsimp only at hSw); go_simp
            all_goals (with_reducible rfl)
          (try simp only [Act.put, List.getElem_toArray, List.getElem_cons_succ, List.getElem_cons_zero, List.setIfInBounds_toArray, List.set_cons_zero, List.set_cons_succ])
          refine wpAnyH_ready (rs := [12]) (by kernel_rfl) (by simp) ?_
          refine AllReadyH.cons rfl (fun K hK => ?_) AllReadyH.nil
          have z75_0 := frozen_of_heap (i := 0) x71_72_73_74
          have z75_1 := frozen_of_heap (i := 1) x71_72_73_74
          have z75_2 := frozen_of_heap (i := 2) x71_72_73_74
          have z75_3 := frozen_of_heap (i := 3) x71_72_73_74
          have z75_4 := frozen_of_heap (i := 4) x71_72_73_74
          have k75_0 := cell_of_heap x71_72_73_74 (i := 0) (v := .int .i64 0) (by rfl)
          have k75_1 := cell_of_heap x71_72_73_74 (i := 1) (v := .slice none 0 0) (by rfl)
          have k75_2 := cell_of_heap x71_72_73_74 (i := 2) (v := .int .i64 0) (by rfl)
          have k75_3 := cell_of_heap x71_72_73_74 (i := 3) (v := .int .i64 0) (by rfl)
          have k75_4 := cell_of_heap x71_72_73_74 (i := 4) (v := .int .i64 0) (by rfl)
          go_simp
          obtain ⟨y75, hw75, x75, hc75⟩ := set5 (x := .int .i64 (n : Int)) (y := .slice ea LA.length ec) (z := .int .i64 (V.length : Int)) (u := .int .i64 ((V.length : Int) + 3)) (v := .int .i64 wy) x71_72_73_74
          rw [hw75]
          have b75 : Below w3.heap.size w3 y75 := Below.trans b74 (hc75.belowLo6 le74 (fun x e => by subst e; exact ge71))
          have hE75 := hE74_l.kept (R' := fun _ => True) hc75 (fun x hx e => dE74 x hx e) (fun _ _ => trivial)
          refine hK.out _ _ (HS.out _ b75) (fun hHeld => ?_)
          clear hK K
          (try simp only [Act.put, List.getElem_toArray, List.getElem_cons_succ, List.getElem_cons_zero, List.setIfInBounds_toArray, List.set_cons_zero, List.set_cons_succ])
          refine wpAnyH_take (i := 13) (v := ?_) rfl (by kernel_rfl) (by kernel_rfl) (by kernel_rfl) (fun _ _ _ h => h) (Or.inl ⟨by rfl, ?_⟩) hHeld ?_
          rotate_left
          · intro w hSw; (try dsimp only at hSw); go_simp
            all_goals (with_reducible rfl)
          (try simp only [Act.put, List.getElem_toArray, List.getElem_cons_succ, List.getElem_cons_zero, List.setIfInBounds_toArray, List.set_cons_zero, List.set_cons_succ])
          refine wpAnyH_done (by kernel_rfl) ?_ _
          clear hHeld
          go_wp2_with fail
          go_meet
          case rel =>
            obtain ⟨_, _, eq9, at9⟩ := hE75.at_
            cases eq9
            exact ⟨_, ea, ec, wy, rfl, rfl, x75, at9, b75, ge71⟩
      · go_simp
        obtain ⟨y76, hw76⟩ : ∃ z, (y57.alloc (.cells #[.int .i64 0, .slice none 0 0, .int .i64 0, .int .i64 0, .int .i64 0] 42)) = z := ⟨_, rfl⟩
        obtain ⟨g76, hg76⟩ : ∃ z, y57.heap.size = z := ⟨_, rfl⟩
        have x76 : y76.heap[g76]? = some (.cells #[.int .i64 0, .slice none 0 0, .int .i64 0, .int .i64 0, .int .i64 0] 42 (0, 0)) := by rw [← hw76, ← hg76]; exact World.alloc_heap_new _ _
        have bs76 : Below y57.heap.size y57 y76 := by rw [← hw76]; exact below_alloc _ _
        have b76 : Below w3.heap.size w3 y76 := Below.trans b57 (bs76.mono le57)
        have le76 : w3.heap.size ≤ y76.heap.size := b76.size
        have ge76 : w3.heap.size ≤ g76 := by rw [← hg76]; exact le57
        have n76_Z : ¬ g57 = g76 := by have := heap_lt x57; omega
        have x57_76 := (bs76.block _ (heap_lt x57)).trans x57
        rw [hw76, hg76]
        clear hw76 hg76 bs76
        refine hK.out _ _ (HS.out _ b76) (fun hHeld => ?_)
        clear hK K
        (try simp only [Act.put, List.getElem_toArray, List.getElem_cons_succ, List.getElem_cons_zero, List.setIfInBounds_toArray, List.set_cons_zero, List.set_cons_succ])
        refine wpAnyH_ready (rs := [2]) (by kernel_rfl) (by simp) ?_
        refine AllReadyH.cons rfl (fun K hK => ?_) AllReadyH.nil
        go_simp
        obtain ⟨y77, hw77⟩ : ∃ z, (y76.alloc (.cells #[] 5)) = z := ⟨_, rfl⟩
        obtain ⟨g77, hg77⟩ : ∃ z, y76.heap.size = z := ⟨_, rfl⟩
        have x77 : y77.heap[g77]? = some (.cells #[] 5 (0, 0)) := by rw [← hw77, ← hg77]; exact World.alloc_heap_new _ _
        have bs77 : Below y76.heap.size y76 y77 := by rw [← hw77]; exact below_alloc _ _
        have b77 : Below w3.heap.size w3 y77 := Below.trans b76 (bs77.mono le76)
        have le77 : w3.heap.size ≤ y77.heap.size := b77.size
        have ge77 : w3.heap.size ≤ g77 := by rw [← hg77]; exact le76
        have n77_Z : ¬ g57 = g77 := by have := heap_lt x57_76; omega
        have x57_76_77 := (bs77.block _ (heap_lt x57_76)).trans x57_76
        have n77_T : ¬ g76 = g77 := by have := heap_lt x76; omega
        have x76_77 := (bs77.block _ (heap_lt x76)).trans x76
        rw [hw77, hg77]
        clear hw77 hg77 bs77
        refine hK.out _ _ (HS.out _ b77) (fun hHeld => ?_)
        clear hK K
        (try simp only [Act.put, List.getElem_toArray, List.getElem_cons_succ, List.getElem_cons_zero, List.setIfInBounds_toArray, List.set_cons_zero, List.set_cons_succ])
        refine wpAnyH_ready (rs := [4]) (by kernel_rfl) (by simp) ?_
        refine AllReadyH.cons rfl (fun K hK => ?_) AllReadyH.nil
        have q78 := row_of_block x77 (n := 0) rfl (by decide)
        refine wp_append_segsrc (.tmp 63) (.tmp 64) 26 rfl 0 5 i0 (.int .u8 0) 1 Tryz.underlying26 hi hz0 hz1 hz2 rfl _ 0 [] rfl q78 ua V.length uc (V.map bv) rfl (by simp) un (UR.out.below b77) (by intro u hu; obtain ⟨_, _, rfl⟩ := List.mem_map.1 hu; rfl) (by omega) (by omega) (Nat.zero_le _) ?_
        intro v78 y78 r78 G78
        rw [Nat.zero_add, List.nil_append] at r78
        obtain ⟨a78, c78, rfl, _, _⟩ := RowAt.of_owns r78
        have b78 : Below w3.heap.size w3 y78 := Below.trans b77 (G78.1.belowLo6 le77 (fun x e => by cases e; exact ge77))
        have le78 : w3.heap.size ≤ y78.heap.size := b78.size
        have ho78 : ∀ x, (Value.slice a78 (V.length) c78).ownBlock = some x → w3.heap.size ≤ x := fun x e => by
          rcases G78.2 with q | ⟨g', q, hge⟩
          · rw [q] at e; cases e; exact ge77
          · rw [q] at e; cases e; have := le77; omega
        have x57_76_77_78 := G78.1.obj x57_76_77 (fun e => absurd (Option.some.inj (show some g77 = some g57 from e)) (fun e => n77_Z e.symm))
        have x76_77_78 := G78.1.obj x76_77 (fun e => by obtain ⟨_, _, q⟩ := ownsRow_ty q78 e; rw [x76_77] at q; simp only [Option.some.injEq, Obj.cells.injEq] at q; exact absurd q.2.1 (by decide))
        refine hK.out _ _ (HS.out _ b78) (fun hHeld => ?_)
        clear hK K
        (try simp only [Act.put, List.getElem_toArray, List.getElem_cons_succ, List.getElem_cons_zero, List.setIfInBounds_toArray, List.set_cons_zero, List.set_cons_succ])
        refine wpAnyH_ready (rs := [6]) (by kernel_rfl) (by simp) ?_
        refine AllReadyH.cons rfl (fun K hK => ?_) AllReadyH.nil
        have nzy78 : RowAt y78 (some ⟨g57, 0, none⟩) [.int .u8 0, .int .u8 0, .int .u8 0] := by obtain ⟨_, _, e, h, _⟩ := RowAt.of_owns (row_of_block x57_76_77_78 (n := 3) rfl (by decide)); cases e; exact h
        refine wp_append_segsrc (.tmp 65) (.tmp 66) 26 rfl 0 5 i0 (.int .u8 0) 1 Tryz.underlying26 hi hz0 hz1 hz2 rfl _ V.length _ rfl r78 (some ⟨g57, 0, none⟩) 3 3 [.int .u8 0, .int .u8 0, .int .u8 0] rfl rfl (fun e => by cases e) (nzy78) (by simp [Value.oneCell']) (by omega) (by omega) (Nat.zero_le _) ?_
        intro v79 y79 r79 G79
        obtain ⟨a79, c79, rfl, _, _⟩ := RowAt.of_owns r79
        have b79 : Below w3.heap.size w3 y79 := Below.trans b78 (G79.1.belowLo6 le78 (fun x e => ho78 x e))
        have le79 : w3.heap.size ≤ y79.heap.size := b79.size
        have ho79 : ∀ x, (Value.slice a79 (V.length + 3) c79).ownBlock = some x → w3.heap.size ≤ x := fun x e => by
          rcases G79.2 with q | ⟨g', q, hge⟩
          · rw [q] at e; exact ho78 x e
          · rw [q] at e; cases e; have := le78; omega
        have x76_77_78_79 := G79.1.obj x76_77_78 (fun e => by obtain ⟨_, _, q⟩ := ownsRow_ty r78 e; rw [x76_77_78] at q; simp only [Option.some.injEq, Obj.cells.injEq] at q; exact absurd q.2.1 (by decide))
        refine hK.out _ _ (HS.out _ b79) (fun hHeld => ?_)
        clear hK K
        (try simp only [Act.put, List.getElem_toArray, List.getElem_cons_succ, List.getElem_cons_zero, List.setIfInBounds_toArray, List.set_cons_zero, List.set_cons_succ])
        refine wpAnyH_ready (rs := [7]) (by kernel_rfl) (by simp) ?_
        refine AllReadyH.cons rfl (fun K hK => ?_) AllReadyH.nil
        obtain ⟨_, _, e80, rr80, _⟩ := RowAt.of_owns r79
        cases e80
        go_simp
        refine (HDE.out _ _ _ (by rw [List.map_append]; exact rr80) (ownsRow_cap0 r79) (ownsRow_len_cap r79)).mono ?_
        rintro _ y80 ⟨ea, ec, wy, rfl, hE80, bs80⟩
        have b80 : Below w3.heap.size w3 y80 := Below.trans b79 (bs80.mono le79)
        have le80 : w3.heap.size ≤ y80.heap.size := b80.size
        have hE80_l := hE80.lt
        have dE80 : ∀ x, (y79.heap.size ≤ x ∧ x < y80.heap.size) → ¬ x = g76 := fun x hx => by have := heap_lt x76_77_78_79; omega
        have x76_77_78_79_80 := (bs80.block _ (heap_lt x76_77_78_79)).trans x76_77_78_79
        refine hK.out _ _ (HS.out _ b80) (fun hHeld => ?_)
        clear hK K
        (try simp only [Act.put, List.getElem_toArray, List.getElem_cons_succ, List.getElem_cons_zero, List.setIfInBounds_toArray, List.set_cons_zero, List.set_cons_succ])
        refine wpAnyH_take (i := 8) (v := ?_) rfl (by kernel_rfl) (by kernel_rfl) (by kernel_rfl) (fun _ _ _ h => h) (Or.inl ⟨by rfl, ?_⟩) hHeld ?_
        rotate_left
        · intro w hSw; (try dsimp only at hSw); go_simp
          all_goals (with_reducible rfl)
        (try simp only [Act.put, List.getElem_toArray, List.getElem_cons_succ, List.getElem_cons_zero, List.setIfInBounds_toArray, List.set_cons_zero, List.set_cons_succ])
        refine wpAnyH_take (i := 9) (v := ?_) rfl (by kernel_rfl) (by kernel_rfl) (by kernel_rfl) (fun _ _ _ h => h) (Or.inl ⟨by rfl, ?_⟩) hHeld ?_
        rotate_left
        · intro w hSw; (try dsimp only at hSw); go_simp
          all_goals (with_reducible rfl)
        (try simp only [Act.put, List.getElem_toArray, List.getElem_cons_succ, List.getElem_cons_zero, List.setIfInBounds_toArray, List.set_cons_zero, List.set_cons_succ])
        refine wpAnyH_take (i := 10) (v := ?_) rfl (by kernel_rfl) (by kernel_rfl) (by kernel_rfl) (fun _ _ _ h => h) (Or.inl ⟨by rfl, ?_⟩) hHeld ?_
        rotate_left
        · intro w hSw; (try dsimp only at hSw); go_simp
          all_goals (with_reducible rfl)
        (try simp only [Act.put, List.getElem_toArray, List.getElem_cons_succ, List.getElem_cons_zero, List.setIfInBounds_toArray, List.set_cons_zero, List.set_cons_succ])
        refine wpAnyH_ready (rs := [12]) (by kernel_rfl) (by simp) ?_
        refine AllReadyH.cons rfl (fun K hK => ?_) AllReadyH.nil
        have z81_0 := frozen_of_heap (i := 0) x76_77_78_79_80
        have z81_1 := frozen_of_heap (i := 1) x76_77_78_79_80
        have z81_2 := frozen_of_heap (i := 2) x76_77_78_79_80
        have z81_3 := frozen_of_heap (i := 3) x76_77_78_79_80
        have z81_4 := frozen_of_heap (i := 4) x76_77_78_79_80
        have k81_0 := cell_of_heap x76_77_78_79_80 (i := 0) (v := .int .i64 0) (by rfl)
        have k81_1 := cell_of_heap x76_77_78_79_80 (i := 1) (v := .slice none 0 0) (by rfl)
        have k81_2 := cell_of_heap x76_77_78_79_80 (i := 2) (v := .int .i64 0) (by rfl)
        have k81_3 := cell_of_heap x76_77_78_79_80 (i := 3) (v := .int .i64 0) (by rfl)
        have k81_4 := cell_of_heap x76_77_78_79_80 (i := 4) (v := .int .i64 0) (by rfl)
        go_simp
        obtain ⟨y81, hw81, x81, hc81⟩ := set5 (x := .int .i64 (n : Int)) (y := .slice ea LA.length ec) (z := .int .i64 (V.length : Int)) (u := .int .i64 ((V.length : Int) + 3)) (v := .int .i64 wy) x76_77_78_79_80
        rw [hw81]
        have b81 : Below w3.heap.size w3 y81 := Below.trans b80 (hc81.belowLo6 le80 (fun x e => by subst e; exact ge76))
        have hE81 := hE80_l.kept (R' := fun _ => True) hc81 (fun x hx e => dE80 x hx e) (fun _ _ => trivial)
        refine hK.out _ _ (HS.out _ b81) (fun hHeld => ?_)
        clear hK K
        (try simp only [Act.put, List.getElem_toArray, List.getElem_cons_succ, List.getElem_cons_zero, List.setIfInBounds_toArray, List.set_cons_zero, List.set_cons_succ])
        refine wpAnyH_take (i := 13) (v := ?_) rfl (by kernel_rfl) (by kernel_rfl) (by kernel_rfl) (fun _ _ _ h => h) (Or.inl ⟨by rfl, ?_⟩) hHeld ?_
        rotate_left
        · intro w hSw; (try dsimp only at hSw); go_simp
          all_goals (with_reducible rfl)
        (try simp only [Act.put, List.getElem_toArray, List.getElem_cons_succ, List.getElem_cons_zero, List.setIfInBounds_toArray, List.set_cons_zero, List.set_cons_succ])
        refine wpAnyH_done (by kernel_rfl) ?_ _
        clear hHeld
        go_wp2_with fail
        go_meet
        case rel =>
          obtain ⟨_, _, eq9, at9⟩ := hE81.at_
          cases eq9
          exact ⟨_, ea, ec, wy, rfl, rfl, x81, at9, b81, ge76⟩
    · go_simp
      obtain ⟨y82, hw82⟩ : ∃ z, (w3.alloc (.cells #[.int .i64 0, .slice none 0 0, .int .i64 0, .int .i64 0, .int .i64 0] 42)).drew = z := ⟨_, rfl⟩
      obtain ⟨g82, hg82⟩ : ∃ z, w3.heap.size = z := ⟨_, rfl⟩
      have x82 : y82.heap[g82]? = some (.cells #[.int .i64 0, .slice none 0 0, .int .i64 0, .int .i64 0, .int .i64 0] 42 (0, 0)) := by rw [← hw82, ← hg82]; exact World.alloc_heap_new _ _
      have bs82 : Below w3.heap.size w3 y82 := by rw [← hw82]; exact (below_alloc w3 _).drew
      have b82 : Below w3.heap.size w3 y82 := Below.trans (Below.refl w3.heap.size w3) (bs82.mono (Nat.le_refl w3.heap.size))
      have le82 : w3.heap.size ≤ y82.heap.size := b82.size
      have ge82 : w3.heap.size ≤ g82 := by rw [← hg82]; exact (Nat.le_refl w3.heap.size)
      rw [hw82, hg82]
      clear hw82 hg82 bs82
      refine hK.out _ _ (HS.out _ b82) (fun hHeld => ?_)
      clear hK K
      (try simp only [Act.put, List.getElem_toArray, List.getElem_cons_succ, List.getElem_cons_zero, List.setIfInBounds_toArray, List.set_cons_zero, List.set_cons_succ])
      refine wpAnyH_ready (rs := [2, 5]) (by kernel_rfl) (by simp) ?_
      refine AllReadyH.cons rfl (fun K hK => ?_) (AllReadyH.cons rfl (fun K hK => ?_) AllReadyH.nil)
      · go_simp
        obtain ⟨y83, hw83⟩ : ∃ z, (y82.alloc (.cells #[] 5)) = z := ⟨_, rfl⟩
        obtain ⟨g83, hg83⟩ : ∃ z, y82.heap.size = z := ⟨_, rfl⟩
        have x83 : y83.heap[g83]? = some (.cells #[] 5 (0, 0)) := by rw [← hw83, ← hg83]; exact World.alloc_heap_new _ _
        have bs83 : Below y82.heap.size y82 y83 := by rw [← hw83]; exact below_alloc _ _
        have b83 : Below w3.heap.size w3 y83 := Below.trans b82 (bs83.mono le82)
        have le83 : w3.heap.size ≤ y83.heap.size := b83.size
        have ge83 : w3.heap.size ≤ g83 := by rw [← hg83]; exact le82
        have n83_T : ¬ g82 = g83 := by have := heap_lt x82; omega
        have x82_83 := (bs83.block _ (heap_lt x82)).trans x82
        rw [hw83, hg83]
        clear hw83 hg83 bs83
        refine hK.out _ _ (HS.out _ b83) (fun hHeld => ?_)
        clear hK K
        (try simp only [Act.put, List.getElem_toArray, List.getElem_cons_succ, List.getElem_cons_zero, List.setIfInBounds_toArray, List.set_cons_zero, List.set_cons_succ])
        refine wpAnyH_ready (rs := [4, 5]) (by kernel_rfl) (by simp) ?_
        refine AllReadyH.cons rfl (fun K hK => ?_) (AllReadyH.cons rfl (fun K hK => ?_) AllReadyH.nil)
        · have q84 := row_of_block x83 (n := 0) rfl (by decide)
          refine wp_append_segsrc (.tmp 63) (.tmp 64) 26 rfl 0 5 i0 (.int .u8 0) 1 Tryz.underlying26 hi hz0 hz1 hz2 rfl _ 0 [] rfl q84 ua V.length uc (V.map bv) rfl (by simp) un (UR.out.below b83) (by intro u hu; obtain ⟨_, _, rfl⟩ := List.mem_map.1 hu; rfl) (by omega) (by omega) (Nat.zero_le _) ?_
          intro v84 y84 r84 G84
          rw [Nat.zero_add, List.nil_append] at r84
          obtain ⟨a84, c84, rfl, _, _⟩ := RowAt.of_owns r84
          have b84 : Below w3.heap.size w3 y84 := Below.trans b83 (G84.1.belowLo6 le83 (fun x e => by cases e; exact ge83))
          have le84 : w3.heap.size ≤ y84.heap.size := b84.size
          have ho84 : ∀ x, (Value.slice a84 (V.length) c84).ownBlock = some x → w3.heap.size ≤ x := fun x e => by
            rcases G84.2 with q | ⟨g', q, hge⟩
            · rw [q] at e; cases e; exact ge83
            · rw [q] at e; cases e; have := le83; omega
          have x82_83_84 := G84.1.obj x82_83 (fun e => by obtain ⟨_, _, q⟩ := ownsRow_ty q84 e; rw [x82_83] at q; simp only [Option.some.injEq, Obj.cells.injEq] at q; exact absurd q.2.1 (by decide))
          refine hK.out _ _ (HS.out _ b84) (fun hHeld => ?_)
          clear hK K
          (try simp only [Act.put, List.getElem_toArray, List.getElem_cons_succ, List.getElem_cons_zero, List.setIfInBounds_toArray, List.set_cons_zero, List.set_cons_succ])
          refine wpAnyH_ready (rs := [5]) (by kernel_rfl) (by simp) ?_
          refine AllReadyH.cons rfl (fun K hK => ?_) AllReadyH.nil
          go_simp
          obtain ⟨y85, hw85⟩ : ∃ z, (y84.alloc (.cells #[.int .u8 0, .int .u8 0, .int .u8 0] 5)) = z := ⟨_, rfl⟩
          obtain ⟨g85, hg85⟩ : ∃ z, y84.heap.size = z := ⟨_, rfl⟩
          have x85 : y85.heap[g85]? = some (.cells #[.int .u8 0, .int .u8 0, .int .u8 0] 5 (0, 0)) := by rw [← hw85, ← hg85]; exact World.alloc_heap_new _ _
          have bs85 : Below y84.heap.size y84 y85 := by rw [← hw85]; exact below_alloc _ _
          have b85 : Below w3.heap.size w3 y85 := Below.trans b84 (bs85.mono le84)
          have le85 : w3.heap.size ≤ y85.heap.size := b85.size
          have ge85 : w3.heap.size ≤ g85 := by rw [← hg85]; exact le84
          have n85_T : ¬ g82 = g85 := by have := heap_lt x82_83_84; omega
          have x82_83_84_85 := (bs85.block _ (heap_lt x82_83_84)).trans x82_83_84
          have r84_85 := (Chg.of_below (O := fun _ => False) bs85).row r84 (fun _ _ h => h)
          rw [hw85, hg85]
          clear hw85 hg85 bs85
          refine hK.out _ _ (HS.out _ b85) (fun hHeld => ?_)
          clear hK K
          (try simp only [Act.put, List.getElem_toArray, List.getElem_cons_succ, List.getElem_cons_zero, List.setIfInBounds_toArray, List.set_cons_zero, List.set_cons_succ])
          refine wpAnyH_ready (rs := [6]) (by kernel_rfl) (by simp) ?_
          refine AllReadyH.cons rfl (fun K hK => ?_) AllReadyH.nil
          have nzy85 : RowAt y85 (some ⟨g85, 0, none⟩) [.int .u8 0, .int .u8 0, .int .u8 0] := by obtain ⟨_, _, e, h, _⟩ := RowAt.of_owns (row_of_block x85 (n := 3) rfl (by decide)); cases e; exact h
          refine wp_append_segsrc (.tmp 65) (.tmp 66) 26 rfl 0 5 i0 (.int .u8 0) 1 Tryz.underlying26 hi hz0 hz1 hz2 rfl _ V.length _ rfl r84_85 (some ⟨g85, 0, none⟩) 3 3 [.int .u8 0, .int .u8 0, .int .u8 0] rfl rfl (fun e => by cases e) (nzy85) (by simp [Value.oneCell']) (by omega) (by omega) (Nat.zero_le _) ?_
          intro v86 y86 r86 G86
          obtain ⟨a86, c86, rfl, _, _⟩ := RowAt.of_owns r86
          have b86 : Below w3.heap.size w3 y86 := Below.trans b85 (G86.1.belowLo6 le85 (fun x e => ho84 x e))
          have le86 : w3.heap.size ≤ y86.heap.size := b86.size
          have ho86 : ∀ x, (Value.slice a86 (V.length + 3) c86).ownBlock = some x → w3.heap.size ≤ x := fun x e => by
            rcases G86.2 with q | ⟨g', q, hge⟩
            · rw [q] at e; exact ho84 x e
            · rw [q] at e; cases e; have := le85; omega
          have x82_83_84_85_86 := G86.1.obj x82_83_84_85 (fun e => by obtain ⟨_, _, q⟩ := ownsRow_ty r84_85 e; rw [x82_83_84_85] at q; simp only [Option.some.injEq, Obj.cells.injEq] at q; exact absurd q.2.1 (by decide))
          refine hK.out _ _ (HS.out _ b86) (fun hHeld => ?_)
          clear hK K
          (try simp only [Act.put, List.getElem_toArray, List.getElem_cons_succ, List.getElem_cons_zero, List.setIfInBounds_toArray, List.set_cons_zero, List.set_cons_succ])
          refine wpAnyH_ready (rs := [7]) (by kernel_rfl) (by simp) ?_
          refine AllReadyH.cons rfl (fun K hK => ?_) AllReadyH.nil
          obtain ⟨_, _, e87, rr87, _⟩ := RowAt.of_owns r86
          cases e87
          go_simp
          refine (HDE.out _ _ _ (by rw [List.map_append]; exact rr87) (ownsRow_cap0 r86) (ownsRow_len_cap r86)).mono ?_
          rintro _ y87 ⟨ea, ec, wy, rfl, hE87, bs87⟩
          have b87 : Below w3.heap.size w3 y87 := Below.trans b86 (bs87.mono le86)
          have le87 : w3.heap.size ≤ y87.heap.size := b87.size
          have hE87_l := hE87.lt
          have dE87 : ∀ x, (y86.heap.size ≤ x ∧ x < y87.heap.size) → ¬ x = g82 := fun x hx => by have := heap_lt x82_83_84_85_86; omega
          have x82_83_84_85_86_87 := (bs87.block _ (heap_lt x82_83_84_85_86)).trans x82_83_84_85_86
          refine hK.out _ _ (HS.out _ b87) (fun hHeld => ?_)
          clear hK K
          (try simp only [Act.put, List.getElem_toArray, List.getElem_cons_succ, List.getElem_cons_zero, List.setIfInBounds_toArray, List.set_cons_zero, List.set_cons_succ])
          refine wpAnyH_take (i := 8) (v := ?_) rfl (by kernel_rfl) (by kernel_rfl) (by kernel_rfl) (fun _ _ _ h => h) (Or.inl ⟨by rfl, ?_⟩) hHeld ?_
          rotate_left
          · intro w hSw; (try dsimp only at hSw); go_simp
            all_goals (with_reducible rfl)
          (try simp only [Act.put, List.getElem_toArray, List.getElem_cons_succ, List.getElem_cons_zero, List.setIfInBounds_toArray, List.set_cons_zero, List.set_cons_succ])
          refine wpAnyH_take (i := 9) (v := ?_) rfl (by kernel_rfl) (by kernel_rfl) (by kernel_rfl) (fun _ _ _ h => h) (Or.inl ⟨by rfl, ?_⟩) hHeld ?_
          rotate_left
          · intro w hSw; (try dsimp only at hSw); go_simp
            all_goals (with_reducible rfl)
          (try simp only [Act.put, List.getElem_toArray, List.getElem_cons_succ, List.getElem_cons_zero, List.setIfInBounds_toArray, List.set_cons_zero, List.set_cons_succ])
          refine wpAnyH_take (i := 10) (v := ?_) rfl (by kernel_rfl) (by kernel_rfl) (by kernel_rfl) (fun _ _ _ h => h) (Or.inl ⟨by rfl, ?_⟩) hHeld ?_
          rotate_left
          · intro w hSw; (try dsimp only at hSw); go_simp
            all_goals (with_reducible rfl)
          (try simp only [Act.put, List.getElem_toArray, List.getElem_cons_succ, List.getElem_cons_zero, List.setIfInBounds_toArray, List.set_cons_zero, List.set_cons_succ])
          refine wpAnyH_ready (rs := [12]) (by kernel_rfl) (by simp) ?_
          refine AllReadyH.cons rfl (fun K hK => ?_) AllReadyH.nil
          have z88_0 := frozen_of_heap (i := 0) x82_83_84_85_86_87
          have z88_1 := frozen_of_heap (i := 1) x82_83_84_85_86_87
          have z88_2 := frozen_of_heap (i := 2) x82_83_84_85_86_87
          have z88_3 := frozen_of_heap (i := 3) x82_83_84_85_86_87
          have z88_4 := frozen_of_heap (i := 4) x82_83_84_85_86_87
          have k88_0 := cell_of_heap x82_83_84_85_86_87 (i := 0) (v := .int .i64 0) (by rfl)
          have k88_1 := cell_of_heap x82_83_84_85_86_87 (i := 1) (v := .slice none 0 0) (by rfl)
          have k88_2 := cell_of_heap x82_83_84_85_86_87 (i := 2) (v := .int .i64 0) (by rfl)
          have k88_3 := cell_of_heap x82_83_84_85_86_87 (i := 3) (v := .int .i64 0) (by rfl)
          have k88_4 := cell_of_heap x82_83_84_85_86_87 (i := 4) (v := .int .i64 0) (by rfl)
          go_simp
          obtain ⟨y88, hw88, x88, hc88⟩ := set5 (x := .int .i64 (n : Int)) (y := .slice ea LA.length ec) (z := .int .i64 (V.length : Int)) (u := .int .i64 ((V.length : Int) + 3)) (v := .int .i64 wy) x82_83_84_85_86_87
          rw [hw88]
          have b88 : Below w3.heap.size w3 y88 := Below.trans b87 (hc88.belowLo6 le87 (fun x e => by subst e; exact ge82))
          have hE88 := hE87_l.kept (R' := fun _ => True) hc88 (fun x hx e => dE87 x hx e) (fun _ _ => trivial)
          refine hK.out _ _ (HS.out _ b88) (fun hHeld => ?_)
          clear hK K
          (try simp only [Act.put, List.getElem_toArray, List.getElem_cons_succ, List.getElem_cons_zero, List.setIfInBounds_toArray, List.set_cons_zero, List.set_cons_succ])
          refine wpAnyH_take (i := 13) (v := ?_) rfl (by kernel_rfl) (by kernel_rfl) (by kernel_rfl) (fun _ _ _ h => h) (Or.inl ⟨by rfl, ?_⟩) hHeld ?_
          rotate_left
          · intro w hSw; (try dsimp only at hSw); go_simp
            all_goals (with_reducible rfl)
          (try simp only [Act.put, List.getElem_toArray, List.getElem_cons_succ, List.getElem_cons_zero, List.setIfInBounds_toArray, List.set_cons_zero, List.set_cons_succ])
          refine wpAnyH_done (by kernel_rfl) ?_ _
          clear hHeld
          go_wp2_with fail
          go_meet
          case rel =>
            obtain ⟨_, _, eq9, at9⟩ := hE88.at_
            cases eq9
            exact ⟨_, ea, ec, wy, rfl, rfl, x88, at9, b88, ge82⟩
        · go_simp
          obtain ⟨y89, hw89⟩ : ∃ z, (y83.alloc (.cells #[.int .u8 0, .int .u8 0, .int .u8 0] 5)) = z := ⟨_, rfl⟩
          obtain ⟨g89, hg89⟩ : ∃ z, y83.heap.size = z := ⟨_, rfl⟩
          have x89 : y89.heap[g89]? = some (.cells #[.int .u8 0, .int .u8 0, .int .u8 0] 5 (0, 0)) := by rw [← hw89, ← hg89]; exact World.alloc_heap_new _ _
          have bs89 : Below y83.heap.size y83 y89 := by rw [← hw89]; exact below_alloc _ _
          have b89 : Below w3.heap.size w3 y89 := Below.trans b83 (bs89.mono le83)
          have le89 : w3.heap.size ≤ y89.heap.size := b89.size
          have ge89 : w3.heap.size ≤ g89 := by rw [← hg89]; exact le83
          have n89_T : ¬ g82 = g89 := by have := heap_lt x82_83; omega
          have x82_83_89 := (bs89.block _ (heap_lt x82_83)).trans x82_83
          have n89_L : ¬ g83 = g89 := by have := heap_lt x83; omega
          have x83_89 := (bs89.block _ (heap_lt x83)).trans x83
          rw [hw89, hg89]
          clear hw89 hg89 bs89
          refine hK.out _ _ (HS.out _ b89) (fun hHeld => ?_)
          clear hK K
          (try simp only [Act.put, List.getElem_toArray, List.getElem_cons_succ, List.getElem_cons_zero, List.setIfInBounds_toArray, List.set_cons_zero, List.set_cons_succ])
          refine wpAnyH_ready (rs := [4]) (by kernel_rfl) (by simp) ?_
          refine AllReadyH.cons rfl (fun K hK => ?_) AllReadyH.nil
          have q90 := row_of_block x83_89 (n := 0) rfl (by decide)
          refine wp_append_segsrc (.tmp 63) (.tmp 64) 26 rfl 0 5 i0 (.int .u8 0) 1 Tryz.underlying26 hi hz0 hz1 hz2 rfl _ 0 [] rfl q90 ua V.length uc (V.map bv) rfl (by simp) un (UR.out.below b89) (by intro u hu; obtain ⟨_, _, rfl⟩ := List.mem_map.1 hu; rfl) (by omega) (by omega) (Nat.zero_le _) ?_
          intro v90 y90 r90 G90
          rw [Nat.zero_add, List.nil_append] at r90
          obtain ⟨a90, c90, rfl, _, _⟩ := RowAt.of_owns r90
          have b90 : Below w3.heap.size w3 y90 := Below.trans b89 (G90.1.belowLo6 le89 (fun x e => by cases e; exact ge83))
          have le90 : w3.heap.size ≤ y90.heap.size := b90.size
          have ho90 : ∀ x, (Value.slice a90 (V.length) c90).ownBlock = some x → w3.heap.size ≤ x := fun x e => by
            rcases G90.2 with q | ⟨g', q, hge⟩
            · rw [q] at e; cases e; exact ge83
            · rw [q] at e; cases e; have := le89; omega
          have x82_83_89_90 := G90.1.obj x82_83_89 (fun e => by obtain ⟨_, _, q⟩ := ownsRow_ty q90 e; rw [x82_83_89] at q; simp only [Option.some.injEq, Obj.cells.injEq] at q; exact absurd q.2.1 (by decide))
          have x89_90 := G90.1.obj x89 (fun e => absurd (Option.some.inj (show some g83 = some g89 from e)) n89_L)
          refine hK.out _ _ (HS.out _ b90) (fun hHeld => ?_)
          clear hK K
          (try simp only [Act.put, List.getElem_toArray, List.getElem_cons_succ, List.getElem_cons_zero, List.setIfInBounds_toArray, List.set_cons_zero, List.set_cons_succ])
          refine wpAnyH_ready (rs := [6]) (by kernel_rfl) (by simp) ?_
          refine AllReadyH.cons rfl (fun K hK => ?_) AllReadyH.nil
          have nzy90 : RowAt y90 (some ⟨g89, 0, none⟩) [.int .u8 0, .int .u8 0, .int .u8 0] := by obtain ⟨_, _, e, h, _⟩ := RowAt.of_owns (row_of_block x89_90 (n := 3) rfl (by decide)); cases e; exact h
          refine wp_append_segsrc (.tmp 65) (.tmp 66) 26 rfl 0 5 i0 (.int .u8 0) 1 Tryz.underlying26 hi hz0 hz1 hz2 rfl _ V.length _ rfl r90 (some ⟨g89, 0, none⟩) 3 3 [.int .u8 0, .int .u8 0, .int .u8 0] rfl rfl (fun e => by cases e) (nzy90) (by simp [Value.oneCell']) (by omega) (by omega) (Nat.zero_le _) ?_
          intro v91 y91 r91 G91
          obtain ⟨a91, c91, rfl, _, _⟩ := RowAt.of_owns r91
          have b91 : Below w3.heap.size w3 y91 := Below.trans b90 (G91.1.belowLo6 le90 (fun x e => ho90 x e))
          have le91 : w3.heap.size ≤ y91.heap.size := b91.size
          have ho91 : ∀ x, (Value.slice a91 (V.length + 3) c91).ownBlock = some x → w3.heap.size ≤ x := fun x e => by
            rcases G91.2 with q | ⟨g', q, hge⟩
            · rw [q] at e; exact ho90 x e
            · rw [q] at e; cases e; have := le90; omega
          have x82_83_89_90_91 := G91.1.obj x82_83_89_90 (fun e => by obtain ⟨_, _, q⟩ := ownsRow_ty r90 e; rw [x82_83_89_90] at q; simp only [Option.some.injEq, Obj.cells.injEq] at q; exact absurd q.2.1 (by decide))
          refine hK.out _ _ (HS.out _ b91) (fun hHeld => ?_)
          clear hK K
          (try simp only [Act.put, List.getElem_toArray, List.getElem_cons_succ, List.getElem_cons_zero, List.setIfInBounds_toArray, List.set_cons_zero, List.set_cons_succ])
          refine wpAnyH_ready (rs := [7]) (by kernel_rfl) (by simp) ?_
          refine AllReadyH.cons rfl (fun K hK => ?_) AllReadyH.nil
          obtain ⟨_, _, e92, rr92, _⟩ := RowAt.of_owns r91
          cases e92
          go_simp
          refine (HDE.out _ _ _ (by rw [List.map_append]; exact rr92) (ownsRow_cap0 r91) (ownsRow_len_cap r91)).mono ?_
          rintro _ y92 ⟨ea, ec, wy, rfl, hE92, bs92⟩
          have b92 : Below w3.heap.size w3 y92 := Below.trans b91 (bs92.mono le91)
          have le92 : w3.heap.size ≤ y92.heap.size := b92.size
          have hE92_l := hE92.lt
          have dE92 : ∀ x, (y91.heap.size ≤ x ∧ x < y92.heap.size) → ¬ x = g82 := fun x hx => by have := heap_lt x82_83_89_90_91; omega
          have x82_83_89_90_91_92 := (bs92.block _ (heap_lt x82_83_89_90_91)).trans x82_83_89_90_91
          refine hK.out _ _ (HS.out _ b92) (fun hHeld => ?_)
          clear hK K
          (try simp only [Act.put, List.getElem_toArray, List.getElem_cons_succ, List.getElem_cons_zero, List.setIfInBounds_toArray, List.set_cons_zero, List.set_cons_succ])
          refine wpAnyH_take (i := 8) (v := ?_) rfl (by kernel_rfl) (by kernel_rfl) (by kernel_rfl) (fun _ _ _ h => h) (Or.inl ⟨by rfl, ?_⟩) hHeld ?_
          rotate_left
          · intro w hSw; (try dsimp only at hSw); go_simp
            all_goals (with_reducible rfl)
          (try simp only [Act.put, List.getElem_toArray, List.getElem_cons_succ, List.getElem_cons_zero, List.setIfInBounds_toArray, List.set_cons_zero, List.set_cons_succ])
          refine wpAnyH_take (i := 9) (v := ?_) rfl (by kernel_rfl) (by kernel_rfl) (by kernel_rfl) (fun _ _ _ h => h) (Or.inl ⟨by rfl, ?_⟩) hHeld ?_
          rotate_left
          · intro w hSw; (try dsimp only at hSw); go_simp
            all_goals (with_reducible rfl)
          (try simp only [Act.put, List.getElem_toArray, List.getElem_cons_succ, List.getElem_cons_zero, List.setIfInBounds_toArray, List.set_cons_zero, List.set_cons_succ])
          refine wpAnyH_take (i := 10) (v := ?_) rfl (by kernel_rfl) (by kernel_rfl) (by kernel_rfl) (fun _ _ _ h => h) (Or.inl ⟨by rfl, ?_⟩) hHeld ?_
          rotate_left
          · intro w hSw; (try dsimp only at hSw); go_simp
            all_goals (with_reducible rfl)
          (try simp only [Act.put, List.getElem_toArray, List.getElem_cons_succ, List.getElem_cons_zero, List.setIfInBounds_toArray, List.set_cons_zero, List.set_cons_succ])
          refine wpAnyH_ready (rs := [12]) (by kernel_rfl) (by simp) ?_
          refine AllReadyH.cons rfl (fun K hK => ?_) AllReadyH.nil
          have z93_0 := frozen_of_heap (i := 0) x82_83_89_90_91_92
          have z93_1 := frozen_of_heap (i := 1) x82_83_89_90_91_92
          have z93_2 := frozen_of_heap (i := 2) x82_83_89_90_91_92
          have z93_3 := frozen_of_heap (i := 3) x82_83_89_90_91_92
          have z93_4 := frozen_of_heap (i := 4) x82_83_89_90_91_92
          have k93_0 := cell_of_heap x82_83_89_90_91_92 (i := 0) (v := .int .i64 0) (by rfl)
          have k93_1 := cell_of_heap x82_83_89_90_91_92 (i := 1) (v := .slice none 0 0) (by rfl)
          have k93_2 := cell_of_heap x82_83_89_90_91_92 (i := 2) (v := .int .i64 0) (by rfl)
          have k93_3 := cell_of_heap x82_83_89_90_91_92 (i := 3) (v := .int .i64 0) (by rfl)
          have k93_4 := cell_of_heap x82_83_89_90_91_92 (i := 4) (v := .int .i64 0) (by rfl)
          go_simp
          obtain ⟨y93, hw93, x93, hc93⟩ := set5 (x := .int .i64 (n : Int)) (y := .slice ea LA.length ec) (z := .int .i64 (V.length : Int)) (u := .int .i64 ((V.length : Int) + 3)) (v := .int .i64 wy) x82_83_89_90_91_92
          rw [hw93]
          have b93 : Below w3.heap.size w3 y93 := Below.trans b92 (hc93.belowLo6 le92 (fun x e => by subst e; exact ge82))
          have hE93 := hE92_l.kept (R' := fun _ => True) hc93 (fun x hx e => dE92 x hx e) (fun _ _ => trivial)
          refine hK.out _ _ (HS.out _ b93) (fun hHeld => ?_)
          clear hK K
          (try simp only [Act.put, List.getElem_toArray, List.getElem_cons_succ, List.getElem_cons_zero, List.setIfInBounds_toArray, List.set_cons_zero, List.set_cons_succ])
          refine wpAnyH_take (i := 13) (v := ?_) rfl (by kernel_rfl) (by kernel_rfl) (by kernel_rfl) (fun _ _ _ h => h) (Or.inl ⟨by rfl, ?_⟩) hHeld ?_
          rotate_left
          · intro w hSw; (try dsimp only at hSw); go_simp
            all_goals (with_reducible rfl)
          (try simp only [Act.put, List.getElem_toArray, List.getElem_cons_succ, List.getElem_cons_zero, List.setIfInBounds_toArray, List.set_cons_zero, List.set_cons_succ])
          refine wpAnyH_done (by kernel_rfl) ?_ _
          clear hHeld
          go_wp2_with fail
          go_meet
          case rel =>
            obtain ⟨_, _, eq9, at9⟩ := hE93.at_
            cases eq9
            exact ⟨_, ea, ec, wy, rfl, rfl, x93, at9, b93, ge82⟩
      · go_simp
        obtain ⟨y94, hw94⟩ : ∃ z, (y82.alloc (.cells #[.int .u8 0, .int .u8 0, .int .u8 0] 5)) = z := ⟨_, rfl⟩
        obtain ⟨g94, hg94⟩ : ∃ z, y82.heap.size = z := ⟨_, rfl⟩
        have x94 : y94.heap[g94]? = some (.cells #[.int .u8 0, .int .u8 0, .int .u8 0] 5 (0, 0)) := by rw [← hw94, ← hg94]; exact World.alloc_heap_new _ _
        have bs94 : Below y82.heap.size y82 y94 := by rw [← hw94]; exact below_alloc _ _
        have b94 : Below w3.heap.size w3 y94 := Below.trans b82 (bs94.mono le82)
        have le94 : w3.heap.size ≤ y94.heap.size := b94.size
        have ge94 : w3.heap.size ≤ g94 := by rw [← hg94]; exact le82
        have n94_T : ¬ g82 = g94 := by have := heap_lt x82; omega
        have x82_94 := (bs94.block _ (heap_lt x82)).trans x82
        rw [hw94, hg94]
        clear hw94 hg94 bs94
        refine hK.out _ _ (HS.out _ b94) (fun hHeld => ?_)
        clear hK K
        (try simp only [Act.put, List.getElem_toArray, List.getElem_cons_succ, List.getElem_cons_zero, List.setIfInBounds_toArray, List.set_cons_zero, List.set_cons_succ])
        refine wpAnyH_ready (rs := [2]) (by kernel_rfl) (by simp) ?_
        refine AllReadyH.cons rfl (fun K hK => ?_) AllReadyH.nil
        go_simp
        obtain ⟨y95, hw95⟩ : ∃ z, (y94.alloc (.cells #[] 5)) = z := ⟨_, rfl⟩
        obtain ⟨g95, hg95⟩ : ∃ z, y94.heap.size = z := ⟨_, rfl⟩
        have x95 : y95.heap[g95]? = some (.cells #[] 5 (0, 0)) := by rw [← hw95, ← hg95]; exact World.alloc_heap_new _ _
        have bs95 : Below y94.heap.size y94 y95 := by rw [← hw95]; exact below_alloc _ _
        have b95 : Below w3.heap.size w3 y95 := Below.trans b94 (bs95.mono le94)
        have le95 : w3.heap.size ≤ y95.heap.size := b95.size
        have ge95 : w3.heap.size ≤ g95 := by rw [← hg95]; exact le94
        have n95_T : ¬ g82 = g95 := by have := heap_lt x82_94; omega
        have x82_94_95 := (bs95.block _ (heap_lt x82_94)).trans x82_94
        have n95_Z : ¬ g94 = g95 := by have := heap_lt x94; omega
        have x94_95 := (bs95.block _ (heap_lt x94)).trans x94
        rw [hw95, hg95]
        clear hw95 hg95 bs95
        refine hK.out _ _ (HS.out _ b95) (fun hHeld => ?_)
        clear hK K
        (try simp only [Act.put, List.getElem_toArray, List.getElem_cons_succ, List.getElem_cons_zero, List.setIfInBounds_toArray, List.set_cons_zero, List.set_cons_succ])
        refine wpAnyH_ready (rs := [4]) (by kernel_rfl) (by simp) ?_
        refine AllReadyH.cons rfl (fun K hK => ?_) AllReadyH.nil
        have q96 := row_of_block x95 (n := 0) rfl (by decide)
        refine wp_append_segsrc (.tmp 63) (.tmp 64) 26 rfl 0 5 i0 (.int .u8 0) 1 Tryz.underlying26 hi hz0 hz1 hz2 rfl _ 0 [] rfl q96 ua V.length uc (V.map bv) rfl (by simp) un (UR.out.below b95) (by intro u hu; obtain ⟨_, _, rfl⟩ := List.mem_map.1 hu; rfl) (by omega) (by omega) (Nat.zero_le _) ?_
        intro v96 y96 r96 G96
        rw [Nat.zero_add, List.nil_append] at r96
        obtain ⟨a96, c96, rfl, _, _⟩ := RowAt.of_owns r96
        have b96 : Below w3.heap.size w3 y96 := Below.trans b95 (G96.1.belowLo6 le95 (fun x e => by cases e; exact ge95))
        have le96 : w3.heap.size ≤ y96.heap.size := b96.size
        have ho96 : ∀ x, (Value.slice a96 (V.length) c96).ownBlock = some x → w3.heap.size ≤ x := fun x e => by
          rcases G96.2 with q | ⟨g', q, hge⟩
          · rw [q] at e; cases e; exact ge95
          · rw [q] at e; cases e; have := le95; omega
        have x82_94_95_96 := G96.1.obj x82_94_95 (fun e => by obtain ⟨_, _, q⟩ := ownsRow_ty q96 e; rw [x82_94_95] at q; simp only [Option.some.injEq, Obj.cells.injEq] at q; exact absurd q.2.1 (by decide))
        have x94_95_96 := G96.1.obj x94_95 (fun e => absurd (Option.some.inj (show some g95 = some g94 from e)) (fun e => n95_Z e.symm))
        refine hK.out _ _ (HS.out _ b96) (fun hHeld => ?_)
        clear hK K
        (try simp only [Act.put, List.getElem_toArray, List.getElem_cons_succ, List.getElem_cons_zero, List.setIfInBounds_toArray, List.set_cons_zero, List.set_cons_succ])
        refine wpAnyH_ready (rs := [6]) (by kernel_rfl) (by simp) ?_
        refine AllReadyH.cons rfl (fun K hK => ?_) AllReadyH.nil
        have nzy96 : RowAt y96 (some ⟨g94, 0, none⟩) [.int .u8 0, .int .u8 0, .int .u8 0] := by obtain ⟨_, _, e, h, _⟩ := RowAt.of_owns (row_of_block x94_95_96 (n := 3) rfl (by decide)); cases e; exact h
        refine wp_append_segsrc (.tmp 65) (.tmp 66) 26 rfl 0 5 i0 (.int .u8 0) 1 Tryz.underlying26 hi hz0 hz1 hz2 rfl _ V.length _ rfl r96 (some ⟨g94, 0, none⟩) 3 3 [.int .u8 0, .int .u8 0, .int .u8 0] rfl rfl (fun e => by cases e) (nzy96) (by simp [Value.oneCell']) (by omega) (by omega) (Nat.zero_le _) ?_
        intro v97 y97 r97 G97
        obtain ⟨a97, c97, rfl, _, _⟩ := RowAt.of_owns r97
        have b97 : Below w3.heap.size w3 y97 := Below.trans b96 (G97.1.belowLo6 le96 (fun x e => ho96 x e))
        have le97 : w3.heap.size ≤ y97.heap.size := b97.size
        have ho97 : ∀ x, (Value.slice a97 (V.length + 3) c97).ownBlock = some x → w3.heap.size ≤ x := fun x e => by
          rcases G97.2 with q | ⟨g', q, hge⟩
          · rw [q] at e; exact ho96 x e
          · rw [q] at e; cases e; have := le96; omega
        have x82_94_95_96_97 := G97.1.obj x82_94_95_96 (fun e => by obtain ⟨_, _, q⟩ := ownsRow_ty r96 e; rw [x82_94_95_96] at q; simp only [Option.some.injEq, Obj.cells.injEq] at q; exact absurd q.2.1 (by decide))
        refine hK.out _ _ (HS.out _ b97) (fun hHeld => ?_)
        clear hK K
        (try simp only [Act.put, List.getElem_toArray, List.getElem_cons_succ, List.getElem_cons_zero, List.setIfInBounds_toArray, List.set_cons_zero, List.set_cons_succ])
        refine wpAnyH_ready (rs := [7]) (by kernel_rfl) (by simp) ?_
        refine AllReadyH.cons rfl (fun K hK => ?_) AllReadyH.nil
        obtain ⟨_, _, e98, rr98, _⟩ := RowAt.of_owns r97
        cases e98
        go_simp
        refine (HDE.out _ _ _ (by rw [List.map_append]; exact rr98) (ownsRow_cap0 r97) (ownsRow_len_cap r97)).mono ?_
        rintro _ y98 ⟨ea, ec, wy, rfl, hE98, bs98⟩
        have b98 : Below w3.heap.size w3 y98 := Below.trans b97 (bs98.mono le97)
        have le98 : w3.heap.size ≤ y98.heap.size := b98.size
        have hE98_l := hE98.lt
        have dE98 : ∀ x, (y97.heap.size ≤ x ∧ x < y98.heap.size) → ¬ x = g82 := fun x hx => by have := heap_lt x82_94_95_96_97; omega
        have x82_94_95_96_97_98 := (bs98.block _ (heap_lt x82_94_95_96_97)).trans x82_94_95_96_97
        refine hK.out _ _ (HS.out _ b98) (fun hHeld => ?_)
        clear hK K
        (try simp only [Act.put, List.getElem_toArray, List.getElem_cons_succ, List.getElem_cons_zero, List.setIfInBounds_toArray, List.set_cons_zero, List.set_cons_succ])
        refine wpAnyH_take (i := 8) (v := ?_) rfl (by kernel_rfl) (by kernel_rfl) (by kernel_rfl) (fun _ _ _ h => h) (Or.inl ⟨by rfl, ?_⟩) hHeld ?_
        rotate_left
        · intro w hSw; (try dsimp only at hSw); go_simp
          all_goals (with_reducible rfl)
        (try simp only [Act.put, List.getElem_toArray, List.getElem_cons_succ, List.getElem_cons_zero, List.setIfInBounds_toArray, List.set_cons_zero, List.set_cons_succ])
        refine wpAnyH_take (i := 9) (v := ?_) rfl (by kernel_rfl) (by kernel_rfl) (by kernel_rfl) (fun _ _ _ h => h) (Or.inl ⟨by rfl, ?_⟩) hHeld ?_
        rotate_left
        · intro w hSw; (try dsimp only at hSw); go_simp
          all_goals (with_reducible rfl)
        (try simp only [Act.put, List.getElem_toArray, List.getElem_cons_succ, List.getElem_cons_zero, List.setIfInBounds_toArray, List.set_cons_zero, List.set_cons_succ])
        refine wpAnyH_take (i := 10) (v := ?_) rfl (by kernel_rfl) (by kernel_rfl) (by kernel_rfl) (fun _ _ _ h => h) (Or.inl ⟨by rfl, ?_⟩) hHeld ?_
        rotate_left
        · intro w hSw; (try dsimp only at hSw); go_simp
          all_goals (with_reducible rfl)
        (try simp only [Act.put, List.getElem_toArray, List.getElem_cons_succ, List.getElem_cons_zero, List.setIfInBounds_toArray, List.set_cons_zero, List.set_cons_succ])
        refine wpAnyH_ready (rs := [12]) (by kernel_rfl) (by simp) ?_
        refine AllReadyH.cons rfl (fun K hK => ?_) AllReadyH.nil
        have z99_0 := frozen_of_heap (i := 0) x82_94_95_96_97_98
        have z99_1 := frozen_of_heap (i := 1) x82_94_95_96_97_98
        have z99_2 := frozen_of_heap (i := 2) x82_94_95_96_97_98
        have z99_3 := frozen_of_heap (i := 3) x82_94_95_96_97_98
        have z99_4 := frozen_of_heap (i := 4) x82_94_95_96_97_98
        have k99_0 := cell_of_heap x82_94_95_96_97_98 (i := 0) (v := .int .i64 0) (by rfl)
        have k99_1 := cell_of_heap x82_94_95_96_97_98 (i := 1) (v := .slice none 0 0) (by rfl)
        have k99_2 := cell_of_heap x82_94_95_96_97_98 (i := 2) (v := .int .i64 0) (by rfl)
        have k99_3 := cell_of_heap x82_94_95_96_97_98 (i := 3) (v := .int .i64 0) (by rfl)
        have k99_4 := cell_of_heap x82_94_95_96_97_98 (i := 4) (v := .int .i64 0) (by rfl)
        go_simp
        obtain ⟨y99, hw99, x99, hc99⟩ := set5 (x := .int .i64 (n : Int)) (y := .slice ea LA.length ec) (z := .int .i64 (V.length : Int)) (u := .int .i64 ((V.length : Int) + 3)) (v := .int .i64 wy) x82_94_95_96_97_98
        rw [hw99]
        have b99 : Below w3.heap.size w3 y99 := Below.trans b98 (hc99.belowLo6 le98 (fun x e => by subst e; exact ge82))
        have hE99 := hE98_l.kept (R' := fun _ => True) hc99 (fun x hx e => dE98 x hx e) (fun _ _ => trivial)
        refine hK.out _ _ (HS.out _ b99) (fun hHeld => ?_)
        clear hK K
        (try simp only [Act.put, List.getElem_toArray, List.getElem_cons_succ, List.getElem_cons_zero, List.setIfInBounds_toArray, List.set_cons_zero, List.set_cons_succ])
        refine wpAnyH_take (i := 13) (v := ?_) rfl (by kernel_rfl) (by kernel_rfl) (by kernel_rfl) (fun _ _ _ h => h) (Or.inl ⟨by rfl, ?_⟩) hHeld ?_
        rotate_left
        · intro w hSw; (try dsimp only at hSw); go_simp
          all_goals (with_reducible rfl)
        (try simp only [Act.put, List.getElem_toArray, List.getElem_cons_succ, List.getElem_cons_zero, List.setIfInBounds_toArray, List.set_cons_zero, List.set_cons_succ])
        refine wpAnyH_done (by kernel_rfl) ?_ _
        clear hHeld
        go_wp2_with fail
        go_meet
        case rel =>
          obtain ⟨_, _, eq9, at9⟩ := hE99.at_
          cases eq9
          exact ⟨_, ea, ec, wy, rfl, rfl, x99, at9, b99, ge82⟩
  case rest =>
  obtain ⟨gT, ea, ec, wy, rfl, rfl, hxT, hatT, hb3c, hgT⟩ := hcut
  have hb0c := hb03.trans (hb3c.mono hb03.size)
  have HS7 : Hid (∀ W, Below wc.heap.size wc W → (fun (w' : World) => w'.cell? ⟨w.heap.size, 1, none⟩ = some (.slice ha H.length hc) ∧ w'.cell? ⟨w.heap.size, 2, none⟩ = some (.slice ma M.length mc) ∧ w'.cell? ⟨gT, 1, none⟩ = some (.slice ea LA.length ec) ∧ w'.cell? ⟨gT, 2, none⟩ = some (.int .i64 (V.length : Int))) W) := Lib.hid (fun W hW => by
    obtain ⟨k0, k1, k2, _⟩ := HD.out W (hb0c.trans (hW.mono hb0c.size))
    have kT := (hW.block _ (heap_lt hxT)).trans hxT
    exact ⟨k1, k2, cell_of_heap kT (by rfl), cell_of_heap kT (by rfl)⟩)
  have g3 : ((V.length : Int) != (V.length : Int)) = false := by simp
  have hvr3 := HVR.out.below (hb23.trans (hb3c.mono hb23.size))
  have mvr3 := MVR.out.below (hb23.trans (hb3c.mono hb23.size))
  have HV3 := Lib.hid (And.intro hvr3 mvr3)
  have hb2c := hb23.trans (hb3c.mono hb23.size)
  clear hvr3 mvr3 HS
  go_upto_region 7 with fail
  refine wp_region_held_drew (S := fun (w' : World) => w'.cell? ⟨w.heap.size, 1, none⟩ = some (.slice ha H.length hc) ∧ w'.cell? ⟨w.heap.size, 2, none⟩ = some (.slice ma M.length mc) ∧ w'.cell? ⟨gT, 1, none⟩ = some (.slice ea LA.length ec) ∧ w'.cell? ⟨gT, 2, none⟩ = some (.int .i64 (V.length : Int))) (by kernel_rfl) (HS7.out _ (below_drewN (Below.refl _ wc) 1)) (fun hHeld => ?_)
  refine wpAnyH_take (i := 0) (v := ?_) rfl (by kernel_rfl) (by kernel_rfl) (by kernel_rfl) (fun _ _ _ h => h) (Or.inl ⟨by rfl, ?_⟩) hHeld ?_
  rotate_left
  · intro w hSw; (try dsimp only at hSw); go_simp
    all_goals (with_reducible rfl)
  (try simp only [Act.put, List.getElem_toArray, List.getElem_cons_succ, List.getElem_cons_zero, List.setIfInBounds_toArray, List.set_cons_zero, List.set_cons_succ])
  refine wpAnyH_ready (rs := [1]) (by kernel_rfl) (by simp) ?_
  refine AllReadyH.cons rfl (fun K hK => ?_) AllReadyH.nil
  go_simp
  refine (num17_any _ _).mono ?_
  rintro _ wn ⟨rfl, hwn⟩
  subst hwn
  refine hK.out _ _ (HS7.out _ (below_drewN (Below.refl _ wc) 1)) (fun hHeld => ?_)
  clear hK K
  (try simp only [Act.put, List.getElem_toArray, List.getElem_cons_succ, List.getElem_cons_zero, List.setIfInBounds_toArray, List.set_cons_zero, List.set_cons_succ])
  refine wpAnyH_take (i := 2) (v := ?_) rfl (by kernel_rfl) (by kernel_rfl) (by kernel_rfl) (fun _ _ _ h => h) (Or.inl ⟨by rfl, ?_⟩) hHeld ?_
  rotate_left
  · intro w hSw; (try dsimp only at hSw); go_simp
    all_goals (with_reducible rfl)
  (try simp only [Act.put, List.getElem_toArray, List.getElem_cons_succ, List.getElem_cons_zero, List.setIfInBounds_toArray, List.set_cons_zero, List.set_cons_succ])
  refine wpAnyH_take (i := 3) (v := ?_) rfl (by kernel_rfl) (by kernel_rfl) (by kernel_rfl) (fun _ _ _ h => h) (Or.inl ⟨by rfl, ?_⟩) hHeld ?_
  rotate_left
  · intro w hSw; (try dsimp only at hSw); go_simp
    all_goals (with_reducible rfl)
  (try simp only [Act.put, List.getElem_toArray, List.getElem_cons_succ, List.getElem_cons_zero, List.setIfInBounds_toArray, List.set_cons_zero, List.set_cons_succ])
  refine wpAnyH_take (i := 4) (v := ?_) rfl (by kernel_rfl) (by kernel_rfl) (by kernel_rfl) (fun _ _ _ h => h) (Or.inl ⟨by rfl, ?_⟩) hHeld ?_
  rotate_left
  · intro w hSw; (try dsimp only at hSw); go_simp
    all_goals (with_reducible rfl)
  (try simp only [Act.put, List.getElem_toArray, List.getElem_cons_succ, List.getElem_cons_zero, List.setIfInBounds_toArray, List.set_cons_zero, List.set_cons_succ])
  refine wpAnyH_take (i := 5) (v := ?_) rfl (by kernel_rfl) (by kernel_rfl) (by kernel_rfl) (fun _ _ _ h => h) (Or.inl ⟨by rfl, ?_⟩) hHeld ?_
  rotate_left
  · intro w hSw; (try dsimp only at hSw); go_simp
    all_goals (with_reducible rfl)
  (try simp only [Act.put, List.getElem_toArray, List.getElem_cons_succ, List.getElem_cons_zero, List.setIfInBounds_toArray, List.set_cons_zero, List.set_cons_succ])
  refine wpAnyH_take (i := 6) (v := ?_) rfl (by kernel_rfl) (by kernel_rfl) (by kernel_rfl) (fun _ _ _ h => h) (Or.inl ⟨by rfl, ?_⟩) hHeld ?_
  rotate_left
  · intro w hSw; (try dsimp only at hSw); go_simp
    all_goals (with_reducible rfl)
  (try simp only [Act.put, List.getElem_toArray, List.getElem_cons_succ, List.getElem_cons_zero, List.setIfInBounds_toArray, List.set_cons_zero, List.set_cons_succ])
  refine wpAnyH_take (i := 7) (v := ?_) rfl (by kernel_rfl) (by kernel_rfl) (by kernel_rfl) (fun _ _ _ h => h) (Or.inl ⟨by rfl, ?_⟩) hHeld ?_
  rotate_left
  · intro w hSw; (try dsimp only at hSw); go_simp
    all_goals (with_reducible rfl)
  (try simp only [Act.put, List.getElem_toArray, List.getElem_cons_succ, List.getElem_cons_zero, List.setIfInBounds_toArray, List.set_cons_zero, List.set_cons_succ])
  refine wpAnyH_take (i := 8) (v := ?_) rfl (by kernel_rfl) (by kernel_rfl) (by kernel_rfl) (fun _ _ _ h => h) (Or.inl ⟨by rfl, ?_⟩) hHeld ?_
  rotate_left
  · intro w hSw; (try dsimp only at hSw); go_simp
    all_goals (with_reducible rfl)
  (try simp only [Act.put, List.getElem_toArray, List.getElem_cons_succ, List.getElem_cons_zero, List.setIfInBounds_toArray, List.set_cons_zero, List.set_cons_succ])
  refine wpAnyH_take (i := 9) (v := ?_) rfl (by kernel_rfl) (by kernel_rfl) (by kernel_rfl) (fun _ _ _ h => h) (Or.inl ⟨by rfl, ?_⟩) hHeld ?_
  rotate_left
  · intro w hSw; (try dsimp only at hSw); go_simp
    all_goals (with_reducible rfl)
  (try simp only [Act.put, List.getElem_toArray, List.getElem_cons_succ, List.getElem_cons_zero, List.setIfInBounds_toArray, List.set_cons_zero, List.set_cons_succ])
  refine wpAnyH_take (i := 10) (v := ?_) rfl (by kernel_rfl) (by kernel_rfl) (by kernel_rfl) (fun _ _ _ h => h) (Or.inl ⟨by rfl, ?_⟩) hHeld ?_
  rotate_left
  · intro w hSw; (try dsimp only at hSw); go_simp
    all_goals (with_reducible rfl)
  (try simp only [Act.put, List.getElem_toArray, List.getElem_cons_succ, List.getElem_cons_zero, List.setIfInBounds_toArray, List.set_cons_zero, List.set_cons_succ])
  refine wpAnyH_take (i := 11) (v := ?_) rfl (by kernel_rfl) (by kernel_rfl) (by kernel_rfl) (fun _ _ _ h => h) (Or.inl ⟨by rfl, ?_⟩) hHeld ?_
  rotate_left
  · intro w hSw; (try dsimp only at hSw); go_simp
    all_goals (with_reducible rfl)
  (try simp only [Act.put, List.getElem_toArray, List.getElem_cons_succ, List.getElem_cons_zero, List.setIfInBounds_toArray, List.set_cons_zero, List.set_cons_succ])
  refine wpAnyH_take (i := 12) (v := ?_) rfl (by kernel_rfl) (by kernel_rfl) (by kernel_rfl) (fun _ _ _ h => h) (Or.inl ⟨by rfl, ?_⟩) hHeld ?_
  rotate_left
  · intro w hSw; (try dsimp only at hSw); go_simp
    all_goals (with_reducible rfl)
  (try simp only [Act.put, List.getElem_toArray, List.getElem_cons_succ, List.getElem_cons_zero, List.setIfInBounds_toArray, List.set_cons_zero, List.set_cons_succ])
  refine wpAnyH_take (i := 14) (v := ?_) rfl (by kernel_rfl) (by kernel_rfl) (by kernel_rfl) (fun _ _ _ h => h) (Or.inl ⟨by rfl, ?_⟩) hHeld ?_
  rotate_left
  · intro w hSw; (try dsimp only at hSw); go_simp
    all_goals (with_reducible rfl)
  (try simp only [Act.put, List.getElem_toArray, List.getElem_cons_succ, List.getElem_cons_zero, List.setIfInBounds_toArray, List.set_cons_zero, List.set_cons_succ])
  refine wpAnyH_take (i := 15) (v := ?_) rfl (by kernel_rfl) (by kernel_rfl) (by kernel_rfl) (fun _ _ _ h => h) (Or.inl ⟨by rfl, ?_⟩) hHeld ?_
  rotate_left
  · intro w hSw; (try dsimp only at hSw); go_simp
    all_goals (with_reducible rfl)
  (try simp only [Act.put, List.getElem_toArray, List.getElem_cons_succ, List.getElem_cons_zero, List.setIfInBounds_toArray, List.set_cons_zero, List.set_cons_succ])
  refine wpAnyH_take (i := 17) (v := ?_) rfl (by kernel_rfl) (by kernel_rfl) (by kernel_rfl) (fun _ _ _ h => h) (Or.inl ⟨by rfl, ?_⟩) hHeld ?_
  rotate_left
  · intro w hSw; (try dsimp only at hSw); go_simp
    all_goals (with_reducible rfl)
  (try simp only [Act.put, List.getElem_toArray, List.getElem_cons_succ, List.getElem_cons_zero, List.setIfInBounds_toArray, List.set_cons_zero, List.set_cons_succ])
  refine wpAnyH_take (i := 18) (v := ?_) rfl (by kernel_rfl) (by kernel_rfl) (by kernel_rfl) (fun _ _ _ h => h) (Or.inl ⟨by rfl, ?_⟩) hHeld ?_
  rotate_left
  · intro w hSw; (try dsimp only at hSw); go_simp
    all_goals (with_reducible rfl)
  (try simp only [Act.put, List.getElem_toArray, List.getElem_cons_succ, List.getElem_cons_zero, List.setIfInBounds_toArray, List.set_cons_zero, List.set_cons_succ])
  refine wpAnyH_ready (rs := [13]) (by kernel_rfl) (by simp) ?_
  refine AllReadyH.cons rfl (fun K hK => ?_) AllReadyH.nil
  rw [if_pos (by rfl)]
  go_simp
  obtain ⟨y100, hw100⟩ : ∃ z, (wc.alloc (.cells #[] 26)).drew = z := ⟨_, rfl⟩
  obtain ⟨g100, hg100⟩ : ∃ z, wc.heap.size = z := ⟨_, rfl⟩
  have x100 : y100.heap[g100]? = some (.cells #[] 26 (0, 0)) := by rw [← hw100, ← hg100]; exact World.alloc_heap_new _ _
  have bs100 : Below wc.heap.size wc y100 := by rw [← hw100]; exact (below_alloc wc _).drew
  have b100 : Below wc.heap.size wc y100 := Below.trans (Below.refl wc.heap.size wc) (bs100.mono (Nat.le_refl wc.heap.size))
  have le100 : wc.heap.size ≤ y100.heap.size := b100.size
  have ge100 : wc.heap.size ≤ g100 := by rw [← hg100]; exact (Nat.le_refl wc.heap.size)
  rw [hw100, hg100]
  clear hw100 hg100 bs100
  refine hK.out _ _ (HS7.out _ b100) (fun hHeld => ?_)
  clear hK K
  (try simp only [Act.put, List.getElem_toArray, List.getElem_cons_succ, List.getElem_cons_zero, List.setIfInBounds_toArray, List.set_cons_zero, List.set_cons_succ])
  refine wpAnyH_ready (rs := [16]) (by kernel_rfl) (by simp) ?_
  refine AllReadyH.cons rfl (fun K hK => ?_) AllReadyH.nil
  rw [if_pos (by rfl)]
  have q101 := row_of_block x100 (n := 0) rfl (by decide)
  refine wp_append_segsrc (.tmp 84) (.tmp 86) 22 rfl 0 26 i1 (.slice none 0 0) 24 Tryz.underlying22 hi1 hy0 hy1 hy2 rfl _ 0 [] rfl q101 ha H.length hc hvs rfl HV.out.1 hhn (HV3.out.1.below b100) HV.out.2 (by omega) (by omega) (Nat.zero_le _) ?_
  intro v101 y101 r101 G101
  rw [Nat.zero_add, List.nil_append] at r101
  obtain ⟨a101, c101, rfl, _, _⟩ := RowAt.of_owns r101
  have b101 : Below wc.heap.size wc y101 := Below.trans b100 (G101.1.belowLo6 le100 (fun x e => by cases e; exact ge100))
  have le101 : wc.heap.size ≤ y101.heap.size := b101.size
  have ho101 : ∀ x, (Value.slice a101 (H.length) c101).ownBlock = some x → wc.heap.size ≤ x := fun x e => by
    rcases G101.2 with q | ⟨g', q, hge⟩
    · rw [q] at e; cases e; exact ge100
    · rw [q] at e; cases e; have := le100; omega
  refine hK.out _ _ (HS7.out _ b101) (fun hHeld => ?_)
  clear hK K
  (try simp only [Act.put, List.getElem_toArray, List.getElem_cons_succ, List.getElem_cons_zero, List.setIfInBounds_toArray, List.set_cons_zero, List.set_cons_succ])
  refine wpAnyH_ready (rs := [19]) (by kernel_rfl) (by simp) ?_
  refine AllReadyH.cons rfl (fun K hK => ?_) AllReadyH.nil
  rw [if_pos (by rfl)]
  refine wp_append_segsrc (.tmp 87) (.tmp 89) 22 rfl 0 26 i1 (.slice none 0 0) 24 Tryz.underlying22 hi1 hy0 hy1 hy2 rfl _ H.length _ rfl r101 ma M.length mc mvs rfl MV.out.1 hmn (HV3.out.2.below b101) MV.out.2 (by omega) (by omega) (Nat.zero_le _) ?_
  intro v102 y102 r102 G102
  obtain ⟨a102, c102, rfl, _, _⟩ := RowAt.of_owns r102
  have b102 : Below wc.heap.size wc y102 := Below.trans b101 (G102.1.belowLo6 le101 (fun x e => ho101 x e))
  have le102 : wc.heap.size ≤ y102.heap.size := b102.size
  have ho102 : ∀ x, (Value.slice a102 (H.length + M.length) c102).ownBlock = some x → wc.heap.size ≤ x := fun x e => by
    rcases G102.2 with q | ⟨g', q, hge⟩
    · rw [q] at e; exact ho101 x e
    · rw [q] at e; cases e; have := le101; omega
  refine hK.out _ _ (HS7.out _ b102) (fun hHeld => ?_)
  clear hK K
  (try simp only [Act.put, List.getElem_toArray, List.getElem_cons_succ, List.getElem_cons_zero, List.setIfInBounds_toArray, List.set_cons_zero, List.set_cons_succ])
  refine wpAnyH_ready (rs := [20]) (by kernel_rfl) (by simp) ?_
  refine AllReadyH.cons rfl (fun K hK => ?_) AllReadyH.nil
  rw [if_pos (by rfl)]
  obtain ⟨_, _, e103, rr103, _⟩ := RowAt.of_owns r102
  cases e103
  have ae103 : EntsAt y102 a102 LA := by rw [← HLA.out]; exact ((HVV.out.1.below (hb2c.trans (Below.mono b102 hb2c.size))).app (HVV.out.2.below (hb2c.trans (Below.mono b102 hb2c.size)))).at_ rr103
  have sm103 := rsame_any (c := ec) (d := c102) (hatT.below b102) ae103 (by omega)
  rw [show (LA == LA) = true from by simp] at sm103
  go_simp
  rw [← HLL.out]
  refine sm103.mono ?_
  rintro _ wR ⟨rfl, bs103⟩
  have hbcR : Below wc.heap.size wc wR := Below.trans b102 (bs103.mono le102)
  refine hK.out _ _ (HS7.out _ hbcR) (fun hHeld => ?_)
  clear hK K
  (try simp only [Act.put, List.getElem_toArray, List.getElem_cons_succ, List.getElem_cons_zero, List.setIfInBounds_toArray, List.set_cons_zero, List.set_cons_succ])
  refine wpAnyH_take (i := 21) (v := ?_) rfl (by kernel_rfl) (by kernel_rfl) (by kernel_rfl) (fun _ _ _ h => h) (Or.inl ⟨by rfl, ?_⟩) hHeld ?_
  rotate_left
  · intro w hSw; (try dsimp only at hSw); go_simp
    all_goals (with_reducible rfl)
  (try simp only [Act.put, List.getElem_toArray, List.getElem_cons_succ, List.getElem_cons_zero, List.setIfInBounds_toArray, List.set_cons_zero, List.set_cons_succ])
  refine wpAnyH_take (i := 22) (v := ?_) rfl (by kernel_rfl) (by kernel_rfl) (by kernel_rfl) (fun _ _ _ h => h) (Or.inl ⟨by rfl, ?_⟩) hHeld ?_
  rotate_left
  · intro w hSw; (try dsimp only at hSw); go_simp
    all_goals (with_reducible rfl)
  (try simp only [Act.put, List.getElem_toArray, List.getElem_cons_succ, List.getElem_cons_zero, List.setIfInBounds_toArray, List.set_cons_zero, List.set_cons_succ])
  refine wpAnyH_done (by kernel_rfl) ?_ _
  clear hHeld
  
  have hb0R := hb0c.trans (hbcR.mono hb0c.size)
  obtain ⟨d0, d1, d2, d3, d4, d5⟩ := HD.out wR hb0R
  have hbwR := hb0.trans (hb0R.mono hb0.size)
  have hNew := lasts_new wR
  have HHR := Lib.hid (HH.out.below hb0R)
  have HMR := Lib.hid (HM.out.below hb0R)
  have HKRR := Lib.hid (HKR.out.below hb0R)
  have HDR : Hid (∀ W, Below wR.heap.size wR W → TornAt W w.heap.size (n : Int) ha H.length hc ma M.length mc names ka keep.length kc torn) := Lib.hid (fun W hW => HD.out W (hb0R.trans (hW.mono hb0R.size)))
  clear HS7 HV3 hxT hatT hhn hmn un
  go_upto_region 23 with (first
    | (go_at_call 16; refine hNew.mono ?_; rintro _ w9 ⟨p, F, G, rfl, hX9⟩; have HX9 := Lib.hid hX9; clear d0 d1 d2 d3 d4 d5 hNew; obtain ⟨d0, d1, d2, d3, d4, d5⟩ := HDR.out w9 hX9.2.1; have cB := HC.out.begin_ _ _ _ _ hX9.1; unfold devD at cB; clear hX9)
    | (go_at_call 17; refine cB.mono ?_; rintro _ w10 ⟨rfl, F1, G1, ho, hm⟩; have hX := HX9.out.moved ho hm; have HX10 := Lib.hid hX; clear d0 d1 d2 d3 d4 d5 cB; obtain ⟨d0, d1, d2, d3, d4, d5⟩ := HDR.out w10 hX.2.1; have cA := HC.out.app1 _ _ _ _ ha hc ho (hX.lent HHR.out); unfold devD at cA; clear hX ho hm)
    | (go_at_call 18; refine cU.mono ?_; rintro _ w16 ⟨ea16, ec16, F6, G6, rfl, hE, ho, hm⟩; obtain ⟨w17, hw17⟩ : ∃ z, w16.alloc (.cells #[.int .i64 (n : Int), .slice ea16 LA.length ec16, .int .i64 (eA : Int), .int .i64 (eA : Int), .int .i64 0] 42) = z := ⟨_, rfl⟩; obtain ⟨hs, hb17, hX⟩ := SegLit.new HX15.out hE ho hm hw17; have HX17 := Lib.hid hX; have HS17 := Lib.hid hs; have HW17 := Lib.hid hw17; clear hw17 d0 d1 d2 d3 d4 d5 cU; obtain ⟨d0, d1, d2, d3, d4, d5⟩ := HDR.out w17 hX.2.1; have cN := HC.out.scan1 _ _ _ _ hX.1; unfold devD at cN; clear hX hE ho hm hs)
    | rw [HW17.out]
    | (go_at_call 18; refine cA.mono ?_; rintro _ w12 ⟨ea12, ec12, F2, G2, rfl, hE, ho, hm⟩; obtain ⟨w13, hw13⟩ : ∃ z, w12.alloc (.cells #[.int .i64 (n : Int), .slice ea12 H.length ec12, .int .i64 (eH : Int), .int .i64 (eH : Int), .int .i64 0] 42) = z := ⟨_, rfl⟩; obtain ⟨hs, hb13, hX⟩ := SegLit.new HX10.out hE ho hm hw13; have HX13 := Lib.hid hX; have HS13 := Lib.hid hs; have HW13 := Lib.hid hw13; clear hw13 d0 d1 d2 d3 d4 d5 cA; obtain ⟨d0, d1, d2, d3, d4, d5⟩ := HDR.out w13 hX.2.1; have cS := HC.out.sync _ _ _ _ hX.1; unfold devD at cS; clear hX hE ho hm hs)
    | rw [HW13.out]
    | (go_at_call 11; refine (num17_any _ _).mono ?_; rintro _ _ ⟨rfl, rfl⟩)
    | (go_at_call 19; refine cS.mono ?_; rintro _ w14 ⟨rfl, F3, G3, ho, hm⟩; have hX := HX13.out.moved ho hm; have HX14 := Lib.hid hX; have HS14 := Lib.hid (HS13.out.moved hm); clear d0 d1 d2 d3 d4 d5 cS; have cM := HC.out.syncNames _ _ _ _ ho; clear hX ho hm)
    | (go_at_call 20; refine cM.mono ?_; rintro _ w15 ⟨rfl, F4, G4, ho, hm⟩; have hX := HX14.out.moved ho hm; have HX15 := Lib.hid hX; obtain ⟨d0, d1, d2, d3, d4, d5⟩ := HDR.out w15 hX.2.1; obtain ⟨ea15, ec15, hat, p0, p1, p2, p3, p4⟩ := (HS14.out.moved hm).cells; have cU := HC.out.app2 _ _ _ _ ea15 ma ec15 mc ho hat (hX.lent HMR.out); unfold devD at cU; clear hX ho hm hat cM)
    | (go_at_call 21; refine cL.mono ?_; rintro _ w22 ⟨ea22, ec22, F9, G9, rfl, hE, ho, hm⟩; obtain ⟨w23, hw23⟩ : ∃ z, w22.alloc (.cells #[.int .i64 (n : Int), .slice ea22 LL.length ec22, .int .i64 (eL : Int), .int .i64 (cl : Int), .int .i64 why] 42) = z := ⟨_, rfl⟩; obtain ⟨hs, hb23', hX⟩ := SegLit.new HX21.out hE ho hm hw23; have HX23 := Lib.hid hX; have HS23 := Lib.hid hs; have HW23 := Lib.hid hw23; have HB23 := Lib.hid (HB21.out.trans ((hm.bel (lo := w20.heap.size) HB21.out.size HY21.out).trans (hb23'.mono (by have := hm.1.size; have := HB21.out.size; omega)))); clear hw23 d0 d1 d2 d3 d4 d5 cL; clear hX hE ho hm hs hb23')
    | rw [HW23.out]
    | (go_at_call 21; refine cN.mono ?_; rintro _ w18 ⟨ea18, ec18, F7, G7, rfl, hE, ho, hm⟩; obtain ⟨w19, hw19⟩ : ∃ z, w18.alloc (.cells #[.int .i64 (n : Int), .slice ea18 LA.length ec18, .int .i64 (eA : Int), .int .i64 (eA : Int), .int .i64 0] 42) = z := ⟨_, rfl⟩; obtain ⟨hs, hb19, hX⟩ := SegLit.new HX17.out hE ho hm hw19; have HX19 := Lib.hid hX; have HS19 := Lib.hid hs; have HW19 := Lib.hid hw19; have hsu := (HS17.out.moved hm).below hb19; obtain ⟨qa, qc, hat1, p0, p1, p2, p3, p4⟩ := hsu.cells; obtain ⟨ra, rc, hat2, r0, r1, r2, r3, r4⟩ := hs.cells; have cE := lasts_same (c := qc) (d := rc) (f := (n : Int)) (g := (eA : Int)) (z := (eA : Int)) (y := 0) hat1 hat2 (by omega); clear hw19 d0 d1 d2 d3 d4 d5 cN hX hE ho hm hs hsu hat1 hat2)
    | rw [HW19.out]
    | (go_at_call 22; refine cE.mono ?_; rintro _ w20 ⟨rfl, hb20⟩; have hX := HX19.out.below hb20; have HX20 := Lib.hid hX; have HS20 := Lib.hid (HS19.out.below hb20); obtain ⟨d0, d1, d2, d3, d4, d5⟩ := HDR.out w20 hX.2.1; have cT := HC.out.stop _ _ _ _ ka kc hX.1 (HKRR.out.below hX.2.1); clear hX cE p0 p1 p2 p3 p4 r0 r1 r2 r3 r4)
    | (go_at_call 23; refine cT.mono ?_; rintro _ w21 ⟨po, F8, G8, rfl, hY⟩; have hX : LsAt wR w21 F8 G8 po sC := ⟨hY.1, HX20.out.2.1.trans (hY.2.1.mono HX20.out.2.1.size), fun b hb => by have := hY.2.2 b hb; have := HX20.out.2.1.size; omega⟩; have HX21 := Lib.hid hX; have HY21 := Lib.hid (show ∀ b, F8 b → w20.heap.size ≤ b from hY.2.2); have HB21 := Lib.hid hY.2.1; clear d0 d1 d2 d3 d4 d5 cT; obtain ⟨d0, d1, d2, d3, d4, d5⟩ := HDR.out w21 hX.2.1; have cL := HC.out.scan2 _ _ _ _ hX.1; unfold devD at cL; clear hX hY))
  obtain ⟨hl1, hl2, hLL⟩ := HLL2.out
  obtain ⟨la, lc, hatL, _, l1, _, _, _⟩ := HS23.out.cells
  have hs20 := HS20.out.below HB23.out
  obtain ⟨na, nc, hatN0, _, n1, _, _, _⟩ := hs20.cells
  have hcapN := hs20.cap n1
  have hatN := hatN0.take LL.length
  rw [← hLL] at hatN
  have hsl := run_slice_hi (P := Tryz.prog) 22 26 Tryz.underlying22 Tryz.sizeOf26 na LA.length nc LL.length (by omega)
  have g4 : decide ((LL.length : Int) < (H.length : Int)) = false := by simp; omega
  have g5 : decide (LL.length < H.length) = false := by simp; omega
  have HSS : Hid (∀ W, Below w23.heap.size w23 W → (fun (w' : World) => w'.cell? ⟨w22.heap.size, 1, none⟩ = some (.slice la LL.length lc) ∧ w'.cell? ⟨w18.heap.size, 1, none⟩ = some (.slice na LA.length nc) ∧ w'.cell? ⟨w.heap.size, 1, none⟩ = some (.slice ha H.length hc)) W) := Lib.hid (fun W hW => by
    obtain ⟨_, k1, _⟩ := HDR.out W (HX23.out.2.1.trans (hW.mono HX23.out.2.1.size))
    exact ⟨(hW.cell (p := ⟨w22.heap.size, 1, none⟩) (cell_lt l1)).trans l1, (hW.cell (p := ⟨w18.heap.size, 1, none⟩) (cell_lt n1)).trans n1, k1⟩)
  have hSm := fun (W : World) (hW : Below w23.heap.size w23 W) => rsame_any (c := lc) (d := nc) (hatL.below hW) (hatN.below hW) (by omega)
  rw [show (LL == LL) = true from by simp] at hSm
  have HSM := Lib.hid hSm
  clear l1 n1 hl1 hl2 hLL hatL hatN0 hatN hSm hs20 hcapN
  refine wp_region_held_drew (S := fun (w' : World) => w'.cell? ⟨w22.heap.size, 1, none⟩ = some (.slice la LL.length lc) ∧ w'.cell? ⟨w18.heap.size, 1, none⟩ = some (.slice na LA.length nc) ∧ w'.cell? ⟨w.heap.size, 1, none⟩ = some (.slice ha H.length hc)) (by kernel_rfl) (HSS.out _ (below_drewN (Below.refl _ w23) 1)) (fun hHeld => ?_)
  refine wpAnyH_take (i := 0) (v := ?_) rfl (by kernel_rfl) (by kernel_rfl) (by kernel_rfl) (fun _ _ _ h => h) (Or.inl ⟨by rfl, ?_⟩) hHeld ?_
  rotate_left
  · intro w hSw; (try dsimp only at hSw); go_simp
    all_goals (with_reducible rfl)
  (try simp only [Act.put, List.getElem_toArray, List.getElem_cons_succ, List.getElem_cons_zero, List.setIfInBounds_toArray, List.set_cons_zero, List.set_cons_succ])
  refine wpAnyH_ready (rs := [1]) (by kernel_rfl) (by simp) ?_
  refine AllReadyH.cons rfl (fun K hK => ?_) AllReadyH.nil
  go_simp
  refine (num17_any _ _).mono ?_
  rintro _ wn ⟨rfl, hwn⟩
  subst hwn
  refine hK.out _ _ (HSS.out _ (below_drewN (Below.refl _ w23) 1)) (fun hHeld => ?_)
  clear hK K
  (try simp only [Act.put, List.getElem_toArray, List.getElem_cons_succ, List.getElem_cons_zero, List.setIfInBounds_toArray, List.set_cons_zero, List.set_cons_succ])
  refine wpAnyH_take (i := 2) (v := ?_) rfl (by kernel_rfl) (by kernel_rfl) (by kernel_rfl) (fun _ _ _ h => h) (Or.inl ⟨by rfl, ?_⟩) hHeld ?_
  rotate_left
  · intro w hSw; (try dsimp only at hSw); go_simp
    all_goals (with_reducible rfl)
  (try simp only [Act.put, List.getElem_toArray, List.getElem_cons_succ, List.getElem_cons_zero, List.setIfInBounds_toArray, List.set_cons_zero, List.set_cons_succ])
  refine wpAnyH_take (i := 3) (v := ?_) rfl (by kernel_rfl) (by kernel_rfl) (by kernel_rfl) (fun _ _ _ h => h) (Or.inl ⟨by rfl, ?_⟩) hHeld ?_
  rotate_left
  · intro w hSw; (try dsimp only at hSw); go_simp
    all_goals (with_reducible rfl)
  (try simp only [Act.put, List.getElem_toArray, List.getElem_cons_succ, List.getElem_cons_zero, List.setIfInBounds_toArray, List.set_cons_zero, List.set_cons_succ])
  refine wpAnyH_take (i := 4) (v := ?_) rfl (by kernel_rfl) (by kernel_rfl) (by kernel_rfl) (fun _ _ _ h => h) (Or.inl ⟨by rfl, ?_⟩) hHeld ?_
  rotate_left
  · intro w hSw; (try dsimp only at hSw); go_simp
    all_goals (with_reducible rfl)
  (try simp only [Act.put, List.getElem_toArray, List.getElem_cons_succ, List.getElem_cons_zero, List.setIfInBounds_toArray, List.set_cons_zero, List.set_cons_succ])
  refine wpAnyH_take (i := 5) (v := ?_) rfl (by kernel_rfl) (by kernel_rfl) (by kernel_rfl) (fun _ _ _ h => h) (Or.inl ⟨by rfl, ?_⟩) hHeld ?_
  rotate_left
  · intro w hSw; (try dsimp only at hSw); go_simp
    all_goals (with_reducible rfl)
  (try simp only [Act.put, List.getElem_toArray, List.getElem_cons_succ, List.getElem_cons_zero, List.setIfInBounds_toArray, List.set_cons_zero, List.set_cons_succ])
  refine wpAnyH_take (i := 6) (v := ?_) rfl (by kernel_rfl) (by kernel_rfl) (by kernel_rfl) (fun _ _ _ h => h) (Or.inl ⟨by rfl, ?_⟩) hHeld ?_
  rotate_left
  · intro w hSw; (try dsimp only at hSw); go_simp
    all_goals (with_reducible rfl)
  (try simp only [Act.put, List.getElem_toArray, List.getElem_cons_succ, List.getElem_cons_zero, List.setIfInBounds_toArray, List.set_cons_zero, List.set_cons_succ])
  refine wpAnyH_take (i := 7) (v := ?_) rfl (by kernel_rfl) (by kernel_rfl) (by kernel_rfl) (fun _ _ _ h => h) (Or.inl ⟨by rfl, ?_⟩) hHeld ?_
  rotate_left
  · intro w hSw; (try dsimp only at hSw); go_simp
    all_goals (with_reducible rfl)
  (try simp only [Act.put, List.getElem_toArray, List.getElem_cons_succ, List.getElem_cons_zero, List.setIfInBounds_toArray, List.set_cons_zero, List.set_cons_succ])
  refine wpAnyH_take (i := 8) (v := ?_) rfl (by kernel_rfl) (by kernel_rfl) (by kernel_rfl) (fun _ _ _ h => h) (Or.inl ⟨by rfl, ?_⟩) hHeld ?_
  rotate_left
  · intro w hSw; (try dsimp only at hSw); go_simp
    all_goals (with_reducible rfl)
  (try simp only [Act.put, List.getElem_toArray, List.getElem_cons_succ, List.getElem_cons_zero, List.setIfInBounds_toArray, List.set_cons_zero, List.set_cons_succ])
  refine wpAnyH_take (i := 9) (v := ?_) rfl (by kernel_rfl) (by kernel_rfl) (by kernel_rfl) (fun _ _ _ h => h) (Or.inl ⟨by rfl, ?_⟩) hHeld ?_
  rotate_left
  · intro w hSw; (try dsimp only at hSw); go_simp
    all_goals (with_reducible rfl)
  (try simp only [Act.put, List.getElem_toArray, List.getElem_cons_succ, List.getElem_cons_zero, List.setIfInBounds_toArray, List.set_cons_zero, List.set_cons_succ])
  refine wpAnyH_take (i := 10) (v := ?_) rfl (by kernel_rfl) (by kernel_rfl) (by kernel_rfl) (fun _ _ _ h => h) (Or.inl ⟨by rfl, ?_⟩) hHeld ?_
  rotate_left
  · intro w hSw; (try dsimp only at hSw); go_simp
    all_goals (with_reducible rfl)
  (try simp only [Act.put, List.getElem_toArray, List.getElem_cons_succ, List.getElem_cons_zero, List.setIfInBounds_toArray, List.set_cons_zero, List.set_cons_succ])
  refine wpAnyH_take (i := 11) (v := ?_) rfl (by kernel_rfl) (by kernel_rfl) (by kernel_rfl) (fun _ _ _ h => h) (Or.inl ⟨by rfl, ?_⟩) hHeld ?_
  rotate_left
  · intro w hSw; (try dsimp only at hSw); go_simp
    all_goals (with_reducible rfl)
  (try simp only [Act.put, List.getElem_toArray, List.getElem_cons_succ, List.getElem_cons_zero, List.setIfInBounds_toArray, List.set_cons_zero, List.set_cons_succ])
  refine wpAnyH_take (i := 12) (v := ?_) rfl (by kernel_rfl) (by kernel_rfl) (by kernel_rfl) (fun _ _ _ h => h) (Or.inl ⟨by rfl, ?_⟩) hHeld ?_
  rotate_left
  · intro w hSw; (try dsimp only at hSw); go_simp
    all_goals (with_reducible rfl)
  (try simp only [Act.put, List.getElem_toArray, List.getElem_cons_succ, List.getElem_cons_zero, List.setIfInBounds_toArray, List.set_cons_zero, List.set_cons_succ])
  refine wpAnyH_take (i := 13) (v := ?_) rfl (by kernel_rfl) (by kernel_rfl) (by kernel_rfl) (fun _ _ _ h => h) (Or.inl ⟨by rfl, ?_⟩) hHeld ?_
  rotate_left
  · intro w hSw; (try dsimp only at hSw); go_simp
    all_goals (with_reducible rfl)
  (try simp only [Act.put, List.getElem_toArray, List.getElem_cons_succ, List.getElem_cons_zero, List.setIfInBounds_toArray, List.set_cons_zero, List.set_cons_succ])
  refine wpAnyH_take (i := 14) (v := ?_) rfl (by kernel_rfl) (by kernel_rfl) (by kernel_rfl) (fun _ _ _ h => h) (Or.inl ⟨by rfl, ?_⟩) hHeld ?_
  rotate_left
  · intro w hSw; (try dsimp only at hSw); go_simp
    all_goals (with_reducible rfl)
  (try simp only [Act.put, List.getElem_toArray, List.getElem_cons_succ, List.getElem_cons_zero, List.setIfInBounds_toArray, List.set_cons_zero, List.set_cons_succ])
  refine wpAnyH_take (i := 15) (v := ?_) rfl (by kernel_rfl) (by kernel_rfl) (by kernel_rfl) (fun _ _ _ h => h) (Or.inl ⟨by rfl, ?_⟩) hHeld ?_
  rotate_left
  · intro w hSw; (try dsimp only at hSw); go_simp
    all_goals (with_reducible rfl)
  (try simp only [Act.put, List.getElem_toArray, List.getElem_cons_succ, List.getElem_cons_zero, List.setIfInBounds_toArray, List.set_cons_zero, List.set_cons_succ])
  refine wpAnyH_take (i := 16) (v := ?_) rfl (by kernel_rfl) (by kernel_rfl) (by kernel_rfl) (fun _ _ _ h => h) (Or.inl ⟨by rfl, ?_⟩) hHeld ?_
  rotate_left
  · intro w hSw; (try dsimp only at hSw); go_simp
    all_goals (with_reducible rfl)
  (try simp only [Act.put, List.getElem_toArray, List.getElem_cons_succ, List.getElem_cons_zero, List.setIfInBounds_toArray, List.set_cons_zero, List.set_cons_succ])
  refine wpAnyH_take (i := 17) (v := ?_) rfl (by kernel_rfl) (by kernel_rfl) (by kernel_rfl) (fun _ _ _ h => h) (Or.inl ⟨by rfl, ?_⟩) hHeld ?_
  rotate_left
  · intro w hSw; (try dsimp only at hSw); go_simp
    all_goals (with_reducible rfl)
  (try simp only [Act.put, List.getElem_toArray, List.getElem_cons_succ, List.getElem_cons_zero, List.setIfInBounds_toArray, List.set_cons_zero, List.set_cons_succ])
  refine wpAnyH_take (i := 18) (v := ?_) rfl (by kernel_rfl) (by kernel_rfl) (by kernel_rfl) (fun _ _ _ h => h) (Or.inl ⟨by rfl, ?_⟩) hHeld ?_
  rotate_left
  · intro w hSw; (try dsimp only at hSw); go_simp
    all_goals (with_reducible rfl)
  (try simp only [Act.put, List.getElem_toArray, List.getElem_cons_succ, List.getElem_cons_zero, List.setIfInBounds_toArray, List.set_cons_zero, List.set_cons_succ])
  refine wpAnyH_take (i := 19) (v := ?_) rfl (by kernel_rfl) (by kernel_rfl) (by kernel_rfl) (fun _ _ _ h => h) (Or.inl ⟨by rfl, ?_⟩) hHeld ?_
  rotate_left
  · intro w hSw; (try dsimp only at hSw); go_simp
    all_goals (with_reducible rfl)
  (try simp only [Act.put, List.getElem_toArray, List.getElem_cons_succ, List.getElem_cons_zero, List.setIfInBounds_toArray, List.set_cons_zero, List.set_cons_succ])
  refine wpAnyH_take (i := 20) (v := ?_) rfl (by kernel_rfl) (by kernel_rfl) (by kernel_rfl) (fun _ _ _ h => h) (Or.inl ⟨by rfl, ?_⟩) hHeld ?_
  rotate_left
  · intro w hSw; (try dsimp only at hSw); go_simp
    all_goals (with_reducible rfl)
  (try simp only [Act.put, List.getElem_toArray, List.getElem_cons_succ, List.getElem_cons_zero, List.setIfInBounds_toArray, List.set_cons_zero, List.set_cons_succ])
  refine wpAnyH_ready (rs := [21]) (by kernel_rfl) (by simp) ?_
  refine AllReadyH.cons rfl (fun K hK => ?_) AllReadyH.nil
  rw [if_pos (by rfl)]
  go_simp
  refine (HSM.out _ (below_drewN (Below.refl _ w23) 1)).mono ?_
  rintro _ wS ⟨rfl, hbS⟩
  replace hbS : Below w23.heap.size w23 wS := (below_drewN (Below.refl w23.heap.size w23) 1).trans hbS
  refine hK.out _ _ (HSS.out _ hbS) (fun hHeld => ?_)
  clear hK K
  (try simp only [Act.put, List.getElem_toArray, List.getElem_cons_succ, List.getElem_cons_zero, List.setIfInBounds_toArray, List.set_cons_zero, List.set_cons_succ])
  refine wpAnyH_take (i := 22) (v := ?_) rfl (by kernel_rfl) (by kernel_rfl) (by kernel_rfl) (fun _ _ _ h => h) (Or.inl ⟨by rfl, ?_⟩) hHeld ?_
  rotate_left
  · intro w hSw; (try dsimp only at hSw); go_simp
    all_goals (with_reducible rfl)
  (try simp only [Act.put, List.getElem_toArray, List.getElem_cons_succ, List.getElem_cons_zero, List.setIfInBounds_toArray, List.set_cons_zero, List.set_cons_succ])
  refine wpAnyH_take (i := 23) (v := ?_) rfl (by kernel_rfl) (by kernel_rfl) (by kernel_rfl) (fun _ _ _ h => h) (Or.inl ⟨by rfl, ?_⟩) hHeld ?_
  rotate_left
  · intro w hSw; (try dsimp only at hSw); go_simp
    all_goals (with_reducible rfl)
  (try simp only [Act.put, List.getElem_toArray, List.getElem_cons_succ, List.getElem_cons_zero, List.setIfInBounds_toArray, List.set_cons_zero, List.set_cons_succ])
  refine wpAnyH_done (by kernel_rfl) ?_ _
  clear hHeld
  have hX := HX23.out.below hbS
  have HXS := Lib.hid hX
  have hs := HS23.out.below hbS
  obtain ⟨pa, pc, hat, p0, p1, p2, p3, p4⟩ := hs.cells
  obtain ⟨d0, d1, d2, d3, d4, d5⟩ := HDR.out wS hX.2.1
  have cR := HC.out.rep _ _ _ _ pa pc hX.1 hat
  unfold devD at cR
  have j1 : ((eL : Int) == (eL : Int)) = true := by simp
  clear hsl g4 g5 hs hX hat
  go_wp2_with (first
    | (go_at_call 24; refine cR.mono ?_; rintro _ w25 ⟨ea25, ec25, Fa, Ga, rfl, hE, ho, hm⟩; obtain ⟨w26, hw26⟩ : ∃ z, w25.alloc (.cells #[.int .i64 (n : Int), .slice ea25 LL.length ec25, .int .i64 (eL : Int), .int .i64 (eL : Int), .int .i64 0] 42) = z := ⟨_, rfl⟩; obtain ⟨hs, hb26, hX⟩ := SegLit.new HXS.out hE ho hm hw26; have HX26 := Lib.hid hX; have HS26 := Lib.hid hs; have HW26 := Lib.hid hw26; clear hw26 d0 d1 d2 d3 d4 d5 p0 p1 p2 p3 p4 cR; obtain ⟨d0, d1, d2, d3, d4, d5⟩ := HDR.out w26 hX.2.1; have cZ := HC.out.scan3 _ _ _ _ hX.1; unfold devD at cZ; clear hX hE ho hm hs)
    | rw [HW26.out]
    | (go_at_call 21; refine cZ.mono ?_; rintro _ w27 ⟨ea27, ec27, Fb, Gb, rfl, hE, ho, hm⟩; obtain ⟨w28, hw28⟩ : ∃ z, w27.alloc (.cells #[.int .i64 (n : Int), .slice ea27 LL.length ec27, .int .i64 (eL : Int), .int .i64 (eL : Int), .int .i64 0] 42) = z := ⟨_, rfl⟩; obtain ⟨hs, hb28, hX⟩ := SegLit.new HX26.out hE ho hm hw28; have HX28 := Lib.hid hX; have HS28 := Lib.hid hs; have HW28 := Lib.hid hw28; have hsu := (HS26.out.moved hm).below hb28; obtain ⟨qa, qc, hat1, p0, p1, p2, p3, p4⟩ := hsu.cells; obtain ⟨ra, rc, hat2, r0, r1, r2, r3, r4⟩ := hs.cells; have cE := lasts_same (c := qc) (d := rc) (f := (n : Int)) (g := (eL : Int)) (z := (eL : Int)) (y := 0) hat1 hat2 (by have := HLL2.out.2.1; omega); clear hw28 d0 d1 d2 d3 d4 d5 cZ hX hE ho hm hs hsu hat1 hat2)
    | rw [HW28.out]
    | (go_at_call 11; refine (num17_any _ _).mono ?_; rintro _ _ ⟨rfl, rfl⟩)
    | (go_at_call 22; refine cE.mono ?_; rintro _ w29 ⟨rfl, hb29⟩; have HB29 := Lib.hid hb29; clear p0 p1 p2 p3 p4 r0 r1 r2 r3 r4 cE; obtain ⟨ra, rc, _, r0, r1, r2, r3, r4⟩ := (HS28.out.below hb29).cells; have hw29 := HWK.out w29)
    | (go_at_call 7; refine hw29.mono ?_; rintro _ w30 ⟨rfl, hb30⟩))
  go_ret
  have q1 := hbwR.trans (HX28.out.2.1.mono hbwR.size)
  have q2 := q1.trans (HB29.out.mono q1.size)
  exact ⟨rfl, q2.trans (hb30.mono q2.size)⟩

end Go.Proofs.YtlmdpcaikhdenaaGreat
