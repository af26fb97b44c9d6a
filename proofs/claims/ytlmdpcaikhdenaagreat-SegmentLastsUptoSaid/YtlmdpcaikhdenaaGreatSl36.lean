/- Texts of this claim, one behind the other: Fx3. -/
import Derived.Test.YtlmdpcaikhdenaaGreatSl35
import Derived.Deep.CutBlock
set_option linter.unusedSimpArgs false
set_option linter.unusedVariables false
/- SegmentLasts: the walk. (printed by gen/lastsw.py) -/
namespace Go.Proofs.YtlmdpcaikhdenaaGreat
open Go.RowKit Go.Maps

/-- what is handed in: its cells -/
def TornAt (w : World) (b : Nat) (f : Int) (ha : Option Addr) (hn hc : Nat) (ma : Option Addr) (mn mc : Nat) (names : Int) (ka : Option Addr) (kn kc : Nat) (torn : Int) : Prop :=
  w.cell? ⟨b, 0, none⟩ = some (.int .i64 f) ∧ w.cell? ⟨b, 1, none⟩ = some (.slice ha hn hc) ∧ w.cell? ⟨b, 2, none⟩ = some (.slice ma mn mc) ∧ w.cell? ⟨b, 3, none⟩ = some (.int .i64 names) ∧ w.cell? ⟨b, 4, none⟩ = some (.slice ka kn kc) ∧ w.cell? ⟨b, 5, none⟩ = some (.int .i64 torn)
set_option maxRecDepth 100000 in
set_option maxHeartbeats 8000000 in
theorem segLasts_great1 {w : World} {f names torn : Int} {ha ma ka : Option Addr} {hc mc kc : Nat} {H M : List (List UInt8)} {keep : List Bool} (hH : EntsAt w ha H) (hM : EntsAt w ma M) (hhl : H.length ≤ maxLen) (hml : M.length ≤ maxLen) (hhb : ∀ e ∈ H, e.length ≤ 140737488355328) (hmb : ∀ e ∈ M, e.length ≤ 140737488355328) (hg : greatL H = true) : Calls Tryz.prog 4 #[.agg #[.int .i64 f, .slice ha H.length hc, .slice ma M.length mc, .int .i64 names, .slice ka keep.length kc, .int .i64 torn]] w fun e w' => e = .returned (.bool true) ∧ Below w.heap.size w w' := by
  have hmax : maxLen = 9223372036854775807 := rfl
  obtain ⟨w0, hw0⟩ : ∃ z, w.alloc (.cells #[.int .i64 f, .slice ha H.length hc, .slice ma M.length mc, .int .i64 names, .slice ka keep.length kc, .int .i64 torn] 40) = z := ⟨_, rfl⟩
  have hb0 : Below w.heap.size w w0 := by rw [← hw0]; exact below_alloc w _
  have hx0 : w0.heap[w.heap.size]? = some (.cells #[.int .i64 f, .slice ha H.length hc, .slice ma M.length mc, .int .i64 names, .slice ka keep.length kc, .int .i64 torn] 40 (0, 0)) := by rw [← hw0]; exact World.alloc_heap_new w _
  have hlt0 : w.heap.size < w0.heap.size := heap_lt hx0
  have HD : Hid (∀ W, Below w0.heap.size w0 W → TornAt W w.heap.size f ha H.length hc ma M.length mc names ka keep.length kc torn) := Lib.hid (fun W hW => by
    have k := (hW.block _ hlt0).trans hx0
    exact ⟨cell_of_heap k (by rfl), cell_of_heap k (by rfl), cell_of_heap k (by rfl), cell_of_heap k (by rfl), cell_of_heap k (by rfl), cell_of_heap k (by rfl)⟩)
  obtain ⟨d0, d1, d2, d3, d4, d5⟩ := HD.out w0 (Below.refl _ _)
  have HW := Lib.hid hw0
  have HWK := Lib.hid (fun W => works17_any W)
  clear hw0 hx0
  have hG1 := great17_any (c := hc) (hH.below hb0) hhl hhb
  rw [hg] at hG1
  clear hg hH hM hhl hml hhb hmb
  go_enter Tryz.func4, Tryz.ntmps4
  go_wp2_with (first
    | rw [HW.out]
    | (go_at_call 6; refine hG1.mono ?_; rintro _ w1 ⟨rfl, hb1⟩; have hw1 := HWK.out w1)
    | (go_at_call 7; refine hw1.mono ?_; rintro _ w2 ⟨rfl, hb2⟩))
  go_ret
  have q := hb0.trans (hb1.mono hb0.size)
  exact ⟨rfl, q.trans (hb2.mono q.size)⟩
set_option maxRecDepth 100000 in
set_option maxHeartbeats 8000000 in
theorem segLasts_great2 {w : World} {f names torn : Int} {ha ma ka : Option Addr} {hc mc kc : Nat} {H M : List (List UInt8)} {keep : List Bool} (hH : EntsAt w ha H) (hM : EntsAt w ma M) (hhl : H.length ≤ maxLen) (hml : M.length ≤ maxLen) (hhb : ∀ e ∈ H, e.length ≤ 140737488355328) (hmb : ∀ e ∈ M, e.length ≤ 140737488355328) (hg1 : greatL H = false) (hg : greatL M = true ∨ (greatL M = false ∧ 1000 < keep.length)) : Calls Tryz.prog 4 #[.agg #[.int .i64 f, .slice ha H.length hc, .slice ma M.length mc, .int .i64 names, .slice ka keep.length kc, .int .i64 torn]] w fun e w' => e = .returned (.bool true) ∧ Below w.heap.size w w' := by
  have hmax : maxLen = 9223372036854775807 := rfl
  obtain ⟨w0, hw0⟩ : ∃ z, w.alloc (.cells #[.int .i64 f, .slice ha H.length hc, .slice ma M.length mc, .int .i64 names, .slice ka keep.length kc, .int .i64 torn] 40) = z := ⟨_, rfl⟩
  have hb0 : Below w.heap.size w w0 := by rw [← hw0]; exact below_alloc w _
  have hx0 : w0.heap[w.heap.size]? = some (.cells #[.int .i64 f, .slice ha H.length hc, .slice ma M.length mc, .int .i64 names, .slice ka keep.length kc, .int .i64 torn] 40 (0, 0)) := by rw [← hw0]; exact World.alloc_heap_new w _
  have hlt0 : w.heap.size < w0.heap.size := heap_lt hx0
  have HD : Hid (∀ W, Below w0.heap.size w0 W → TornAt W w.heap.size f ha H.length hc ma M.length mc names ka keep.length kc torn) := Lib.hid (fun W hW => by
    have k := (hW.block _ hlt0).trans hx0
    exact ⟨cell_of_heap k (by rfl), cell_of_heap k (by rfl), cell_of_heap k (by rfl), cell_of_heap k (by rfl), cell_of_heap k (by rfl), cell_of_heap k (by rfl)⟩)
  obtain ⟨d0, d1, d2, d3, d4, d5⟩ := HD.out w0 (Below.refl _ _)
  have HW := Lib.hid hw0
  have HWK := Lib.hid (fun W => works17_any W)
  clear hw0 hx0
  have hG1 := great17_any (c := hc) (hH.below hb0) hhl hhb
  rw [hg1] at hG1
  have hG2 : ∀ W, Below w0.heap.size w0 W → Calls Tryz.prog 6 #[.slice ma M.length mc] W fun e w' => e = .returned (.bool (greatL M)) ∧ Below W.heap.size W w' := fun W hW => great17_any (c := mc) ((hM.below hb0).below hW) hml hmb
  have HG2 := Lib.hid hG2
  clear hg1 hH hM hhl hml hhb hmb hG2
  rcases hg with hg | ⟨hg, hk⟩
  · rw [hg] at HG2
    clear hg
    go_enter Tryz.func4, Tryz.ntmps4
    go_wp2_with (first
      | rw [HW.out]
      | (go_at_call 6; refine hq2.mono ?_; rintro _ w2 ⟨rfl, hb2⟩; have hw2 := HWK.out w2)
      | (go_at_call 6; refine hG1.mono ?_; rintro _ w1 ⟨rfl, hb1⟩; obtain ⟨e0, e1, e2, e3, e4, e5⟩ := HD.out w1 hb1; have hq2 := HG2.out w1 hb1)
      | (go_at_call 7; refine hw2.mono ?_; rintro _ w3 ⟨rfl, hb3⟩))
    go_ret
    have q := hb0.trans (hb1.mono hb0.size)
    have q2 := q.trans (hb2.mono q.size)
    exact ⟨rfl, q2.trans (hb3.mono q2.size)⟩
  · rw [hg] at HG2
    have g1 : decide ((1000 : Int) < (keep.length : Int)) = true := by simp; omega
    clear hg hk
    go_enter Tryz.func4, Tryz.ntmps4
    go_wp2_with (first
      | rw [HW.out]
      | (go_at_call 6; refine hq2.mono ?_; rintro _ w2 ⟨rfl, hb2⟩; obtain ⟨e0, e1, e2, e3, e4, e5⟩ := HD.out w2 (hb1.trans (hb2.mono hb1.size)); have hw2 := HWK.out w2)
      | (go_at_call 6; refine hG1.mono ?_; rintro _ w1 ⟨rfl, hb1⟩; obtain ⟨e0, e1, e2, e3, e4, e5⟩ := HD.out w1 hb1; have hq2 := HG2.out w1 hb1)
      | (go_at_call 7; refine hw2.mono ?_; rintro _ w3 ⟨rfl, hb3⟩))
    go_ret
    have q := hb0.trans (hb1.mono hb0.size)
    have q2 := q.trans (hb2.mono q.size)
    exact ⟨rfl, q2.trans (hb3.mono q2.size)⟩
set_option maxRecDepth 100000 in
set_option maxHeartbeats 16000000 in
theorem segLasts_refused {w : World} {f names torn : Int} {ha ma ka : Option Addr} {hc mc kc : Nat} {H M : List (List UInt8)} {keep : List Bool} (hH : EntsAt w ha H) (hM : EntsAt w ma M) (hhl : H.length ≤ maxLen) (hml : M.length ≤ maxLen) (hhb : ∀ e ∈ H, e.length ≤ 140737488355328) (hmb : ∀ e ∈ M, e.length ≤ 140737488355328) (hg1 : greatL H = false) (hg2 : greatL M = false) (hk : keep.length ≤ 1000) (hhn : ha = none → hc = 0) (hmn : ma = none → mc = 0) (hf : fitsE f 0 (H ++ M) ≠ 0) : Calls Tryz.prog 4 #[.agg #[.int .i64 f, .slice ha H.length hc, .slice ma M.length mc, .int .i64 names, .slice ka keep.length kc, .int .i64 torn]] w fun e w' => e = .returned (.bool true) ∧ Below w.heap.size w w' := by
  have hmax : maxLen = 9223372036854775807 := rfl
  obtain ⟨w0, hw0⟩ : ∃ z, w.alloc (.cells #[.int .i64 f, .slice ha H.length hc, .slice ma M.length mc, .int .i64 names, .slice ka keep.length kc, .int .i64 torn] 40) = z := ⟨_, rfl⟩
  have hb0 : Below w.heap.size w w0 := by rw [← hw0]; exact below_alloc w _
  have hx0 : w0.heap[w.heap.size]? = some (.cells #[.int .i64 f, .slice ha H.length hc, .slice ma M.length mc, .int .i64 names, .slice ka keep.length kc, .int .i64 torn] 40 (0, 0)) := by rw [← hw0]; exact World.alloc_heap_new w _
  have hlt0 : w.heap.size < w0.heap.size := heap_lt hx0
  have HD : Hid (∀ W, Below w0.heap.size w0 W → TornAt W w.heap.size f ha H.length hc ma M.length mc names ka keep.length kc torn) := Lib.hid (fun W hW => by
    have k := (hW.block _ hlt0).trans hx0
    exact ⟨cell_of_heap k (by rfl), cell_of_heap k (by rfl), cell_of_heap k (by rfl), cell_of_heap k (by rfl), cell_of_heap k (by rfl), cell_of_heap k (by rfl)⟩)
  obtain ⟨d0, d1, d2, d3, d4, d5⟩ := HD.out w0 (Below.refl _ _)
  have HW := Lib.hid hw0
  have HWK := Lib.hid (fun W => works17_any W)
  clear hw0 hx0
  obtain ⟨i0, hi, hz0, hz1, hz2⟩ := info_parts Tryz.info5
  obtain ⟨i1, hi1, hy0, hy1, hy2⟩ := info_parts Tryz.info26
  obtain ⟨hhn5, hh3⟩ := not_great hg1
  obtain ⟨hmn5, hm3⟩ := not_great hg2
  have hG1 := great17_any (c := hc) (hH.below hb0) hhl hhb
  rw [hg1] at hG1
  have hG2 : ∀ W, Below w0.heap.size w0 W → Calls Tryz.prog 6 #[.slice ma M.length mc] W fun e w' => e = .returned (.bool false) ∧ Below W.heap.size W w' := fun W hW => by
    have := great17_any (c := mc) ((hM.below hb0).below hW) hml hmb
    rw [hg2] at this
    exact this
  have HG2 := Lib.hid hG2
  have g1 : decide ((1000 : Int) < (keep.length : Int)) = false := by simp; omega
  have HH := Lib.hid (hH.below hb0)
  have HM := Lib.hid (hM.below hb0)
  have hll : (H ++ M).length = H.length + M.length := List.length_append
  obtain ⟨LA, hLA⟩ : ∃ z, H ++ M = z := ⟨_, rfl⟩
  rw [hLA] at hll
  have HLL := Lib.hid hll
  have HLA := Lib.hid hLA
  obtain ⟨V, hV⟩ : ∃ z, encV f LA = z := ⟨_, rfl⟩
  obtain ⟨fe, hfe⟩ : ∃ z, fitsE f 0 LA = z := ⟨_, rfl⟩
  have hEN : ∀ (W : World) (a : Option Addr) (c : Nat), EntsAt W a LA → Calls Tryz.prog 9 #[.int .i64 f, .slice a (H.length + M.length) c] W fun e w' => ∃ U, e = .returned (.tuple #[U, .int .i64 (fe : Int)]) ∧ BytesIn w' (fun b => W.heap.size ≤ b) U V ∧ Below W.heap.size W w' := fun W a c h => by rw [← hV, ← hfe, ← hll]; exact encode_any h (by omega)
  have HEN := Lib.hid hEN
  have hVl : V.length ≤ 16859136 := by rw [← hV]; exact encV_len f LA
  have HV0 := Lib.hid (And.intro hV hfe)
  clear hG2 hV hfe hEN hH hM hll hLA hhl hml hhb hmb hg1 hg2 hh3 hm3
  have hfe0 : fe ≠ 0 := by rw [← HV0.out.2, ← HLA.out]; exact hf
  have hVn : V = [] := by rw [← HV0.out.1, ← HLA.out]; unfold encV; rw [if_neg hf]
  subst hVn
  have g2 : ((fe : Int) != 0) = true := by simpa using hfe0
  clear hfe0 hf hVl
  go_enter Tryz.func4, Tryz.ntmps4
  go_upto_region 3 with (first
    | rw [HW.out]
    | (go_at_call 6; refine hq2.mono ?_; rintro _ w2 ⟨rfl, hb2⟩; have hb02 := hb1.trans (hb2.mono hb1.size); clear d0 d1 d2 d3 d4 d5; obtain ⟨d0, d1, d2, d3, d4, d5⟩ := HD.out w2 hb02)
    | (go_at_call 6; refine hG1.mono ?_; rintro _ w1 ⟨rfl, hb1⟩; clear d0 d1 d2 d3 d4 d5; obtain ⟨d0, d1, d2, d3, d4, d5⟩ := HD.out w1 hb1; have hq2 := HG2.out w1 hb1))
  clear hG1 hq2 g1
  obtain ⟨hvs, hvr, hvv⟩ := (HH.out.below hb02).vals
  obtain ⟨mvs, mvr, mvv⟩ := (HM.out.below hb02).vals
  have HV := Lib.hid (And.intro hvv.1 hvv.one)
  have MV := Lib.hid (And.intro mvv.1 mvv.one)
  have HVV := Lib.hid (And.intro hvv mvv)
  have HVR := Lib.hid hvr
  have MVR := Lib.hid mvr
  clear hvr hvv mvr mvv
  have HS : Hid (∀ W, Below w2.heap.size w2 W → (fun (w' : World) => w'.cell? ⟨w.heap.size, 0, none⟩ = some (.int .i64 f) ∧ w'.cell? ⟨w.heap.size, 1, none⟩ = some (.slice ha H.length hc) ∧ w'.cell? ⟨w.heap.size, 2, none⟩ = some (.slice ma M.length mc)) W) := Lib.hid (fun W hW => by
    obtain ⟨k0, k1, k2, _⟩ := HD.out W (hb02.trans (hW.mono hb02.size))
    exact ⟨k0, k1, k2⟩)
  refine wp_region_held_drew (S := fun (w' : World) => w'.cell? ⟨w.heap.size, 0, none⟩ = some (.int .i64 f) ∧ w'.cell? ⟨w.heap.size, 1, none⟩ = some (.slice ha H.length hc) ∧ w'.cell? ⟨w.heap.size, 2, none⟩ = some (.slice ma M.length mc)) (by kernel_rfl) (⟨d0, d1, d2⟩) (fun hHeld => ?_)
  refine wpAnyH_take (i := 0) (v := ?_) rfl (by kernel_rfl) (by kernel_rfl) (by kernel_rfl) (fun _ _ _ h => h) (Or.inl ⟨by rfl, ?_⟩) hHeld ?_
  rotate_left
  · intro w hSw; (try dsimp only at hSw); go_simp
    all_goals (with_reducible rfl)
  (try simp only [Act.put, List.getElem_toArray, List.getElem_cons_succ, List.getElem_cons_zero, List.setIfInBounds_toArray, List.set_cons_zero, List.set_cons_succ])
  refine wpAnyH_take (i := 1) (v := ?_) rfl (by kernel_rfl) (by kernel_rfl) (by kernel_rfl) (fun _ _ _ h => h) (Or.inl ⟨by rfl, ?_⟩) hHeld ?_
  rotate_left
  · intro w hSw; (try dsimp only at hSw); go_simp
    all_goals (with_reducible rfl)
  (try simp only [Act.put, List.getElem_toArray, List.getElem_cons_succ, List.getElem_cons_zero, List.setIfInBounds_toArray, List.set_cons_zero, List.set_cons_succ])
  refine wpAnyH_take (i := 3) (v := ?_) rfl (by kernel_rfl) (by kernel_rfl) (by kernel_rfl) (fun _ _ _ h => h) (Or.inl ⟨by rfl, ?_⟩) hHeld ?_
  rotate_left
  · intro w hSw; (try dsimp only at hSw); go_simp
    all_goals (with_reducible rfl)
  (try simp only [Act.put, List.getElem_toArray, List.getElem_cons_succ, List.getElem_cons_zero, List.setIfInBounds_toArray, List.set_cons_zero, List.set_cons_succ])
  refine wpAnyH_take (i := 4) (v := ?_) rfl (by kernel_rfl) (by kernel_rfl) (by kernel_rfl) (fun _ _ _ h => h) (Or.inl ⟨by rfl, ?_⟩) hHeld ?_
  rotate_left
  · intro w hSw; (try dsimp only at hSw); go_simp
    all_goals (with_reducible rfl)
  (try simp only [Act.put, List.getElem_toArray, List.getElem_cons_succ, List.getElem_cons_zero, List.setIfInBounds_toArray, List.set_cons_zero, List.set_cons_succ])
  refine wpAnyH_take (i := 6) (v := ?_) rfl (by kernel_rfl) (by kernel_rfl) (by kernel_rfl) (fun _ _ _ h => h) (Or.inl ⟨by rfl, ?_⟩) hHeld ?_
  rotate_left
  · intro w hSw; (try dsimp only at hSw); go_simp
    all_goals (with_reducible rfl)
  (try simp only [Act.put, List.getElem_toArray, List.getElem_cons_succ, List.getElem_cons_zero, List.setIfInBounds_toArray, List.set_cons_zero, List.set_cons_succ])
  refine wpAnyH_take (i := 7) (v := ?_) rfl (by kernel_rfl) (by kernel_rfl) (by kernel_rfl) (fun _ _ _ h => h) (Or.inl ⟨by rfl, ?_⟩) hHeld ?_
  rotate_left
  · intro w hSw; (try dsimp only at hSw); go_simp
    all_goals (with_reducible rfl)
  (try simp only [Act.put, List.getElem_toArray, List.getElem_cons_succ, List.getElem_cons_zero, List.setIfInBounds_toArray, List.set_cons_zero, List.set_cons_succ])
  refine wpAnyH_ready (rs := [2]) (by kernel_rfl) (by simp) ?_
  refine AllReadyH.cons rfl (fun K hK => ?_) AllReadyH.nil
  go_simp
  obtain ⟨y1, hw1⟩ : ∃ z, (w2.alloc (.cells #[] 26)).drew = z := ⟨_, rfl⟩
  obtain ⟨g1, hg1⟩ : ∃ z, w2.heap.size = z := ⟨_, rfl⟩
  have x1 : y1.heap[g1]? = some (.cells #[] 26 (0, 0)) := by rw [← hw1, ← hg1]; exact World.alloc_heap_new _ _
  have bs1 : Below w2.heap.size w2 y1 := by rw [← hw1]; exact (below_alloc w2 _).drew
  have b1 : Below w2.heap.size w2 y1 := Below.trans (Below.refl w2.heap.size w2) (bs1.mono (Nat.le_refl w2.heap.size))
  have le1 : w2.heap.size ≤ y1.heap.size := b1.size
  have ge1 : w2.heap.size ≤ g1 := by rw [← hg1]; exact (Nat.le_refl w2.heap.size)
  rw [hw1, hg1]
  clear hw1 hg1 bs1
  refine hK.out _ _ (HS.out _ b1) (fun hHeld => ?_)
  clear hK K
  (try simp only [Act.put, List.getElem_toArray, List.getElem_cons_succ, List.getElem_cons_zero, List.setIfInBounds_toArray, List.set_cons_zero, List.set_cons_succ])
  refine wpAnyH_ready (rs := [5]) (by kernel_rfl) (by simp) ?_
  refine AllReadyH.cons rfl (fun K hK => ?_) AllReadyH.nil
  have q2 := row_of_block x1 (n := 0) rfl (by decide)
  refine wp_append_segsrc (.tmp 41) (.tmp 43) 22 rfl 0 26 i1 (.slice none 0 0) 24 Tryz.underlying22 hi1 hy0 hy1 hy2 rfl _ 0 [] rfl q2 ha H.length hc hvs rfl HV.out.1 hhn (HVR.out.below b1) HV.out.2 (by omega) (by omega) (Nat.zero_le _) ?_
  intro v2 y2 r2 G2
  rw [Nat.zero_add, List.nil_append] at r2
  obtain ⟨a2, c2, rfl, _, _⟩ := RowAt.of_owns r2
  have b2 : Below w2.heap.size w2 y2 := Below.trans b1 (G2.1.belowLo6 le1 (fun x e => by cases e; exact ge1))
  have le2 : w2.heap.size ≤ y2.heap.size := b2.size
  have ho2 : ∀ x, (Value.slice a2 (H.length) c2).ownBlock = some x → w2.heap.size ≤ x := fun x e => by
    rcases G2.2 with q | ⟨g', q, hge⟩
    · rw [q] at e; cases e; exact ge1
    · rw [q] at e; cases e; have := le1; omega
  refine hK.out _ _ (HS.out _ b2) (fun hHeld => ?_)
  clear hK K
  (try simp only [Act.put, List.getElem_toArray, List.getElem_cons_succ, List.getElem_cons_zero, List.setIfInBounds_toArray, List.set_cons_zero, List.set_cons_succ])
  refine wpAnyH_ready (rs := [8]) (by kernel_rfl) (by simp) ?_
  refine AllReadyH.cons rfl (fun K hK => ?_) AllReadyH.nil
  refine wp_append_segsrc (.tmp 44) (.tmp 46) 22 rfl 0 26 i1 (.slice none 0 0) 24 Tryz.underlying22 hi1 hy0 hy1 hy2 rfl _ H.length _ rfl r2 ma M.length mc mvs rfl MV.out.1 hmn (MVR.out.below b2) MV.out.2 (by omega) (by omega) (Nat.zero_le _) ?_
  intro v3 y3 r3 G3
  obtain ⟨a3, c3, rfl, _, _⟩ := RowAt.of_owns r3
  have b3 : Below w2.heap.size w2 y3 := Below.trans b2 (G3.1.belowLo6 le2 (fun x e => ho2 x e))
  have le3 : w2.heap.size ≤ y3.heap.size := b3.size
  have ho3 : ∀ x, (Value.slice a3 (H.length + M.length) c3).ownBlock = some x → w2.heap.size ≤ x := fun x e => by
    rcases G3.2 with q | ⟨g', q, hge⟩
    · rw [q] at e; exact ho2 x e
    · rw [q] at e; cases e; have := le2; omega
  refine hK.out _ _ (HS.out _ b3) (fun hHeld => ?_)
  clear hK K
  (try simp only [Act.put, List.getElem_toArray, List.getElem_cons_succ, List.getElem_cons_zero, List.setIfInBounds_toArray, List.set_cons_zero, List.set_cons_succ])
  refine wpAnyH_ready (rs := [9]) (by kernel_rfl) (by simp) ?_
  refine AllReadyH.cons rfl (fun K hK => ?_) AllReadyH.nil
  obtain ⟨_, _, e4, rr4, _⟩ := RowAt.of_owns r3
  cases e4
  have ae4 : EntsAt y3 a3 LA := by rw [← HLA.out]; exact ((HVV.out.1.below b3).app (HVV.out.2.below b3)).at_ rr4
  go_simp
  refine (HEN.out _ _ _ ae4).mono ?_
  rintro _ w3 ⟨U, rfl, hU, bs4⟩
  have hb23 : Below w2.heap.size w2 w3 := Below.trans b3 (bs4.mono le3)
  refine hK.out _ _ (HS.out _ hb23) (fun hHeld => ?_)
  clear hK K
  (try simp only [Act.put, List.getElem_toArray, List.getElem_cons_succ, List.getElem_cons_zero, List.setIfInBounds_toArray, List.set_cons_zero, List.set_cons_succ])
  refine wpAnyH_take (i := 10) (v := ?_) rfl (by kernel_rfl) (by kernel_rfl) (by kernel_rfl) (fun _ _ _ h => h) (Or.inl ⟨by rfl, ?_⟩) hHeld ?_
  rotate_left
  · intro w hSw; (try dsimp only at hSw); go_simp
    all_goals (with_reducible rfl)
  (try simp only [Act.put, List.getElem_toArray, List.getElem_cons_succ, List.getElem_cons_zero, List.setIfInBounds_toArray, List.set_cons_zero, List.set_cons_succ])
  refine wpAnyH_take (i := 11) (v := ?_) rfl (by kernel_rfl) (by kernel_rfl) (by kernel_rfl) (fun _ _ _ h => h) (Or.inl ⟨by rfl, ?_⟩) hHeld ?_
  rotate_left
  · intro w hSw; (try dsimp only at hSw); go_simp
    all_goals (with_reducible rfl)
  (try simp only [Act.put, List.getElem_toArray, List.getElem_cons_succ, List.getElem_cons_zero, List.setIfInBounds_toArray, List.set_cons_zero, List.set_cons_succ])
  refine wpAnyH_take (i := 12) (v := ?_) rfl (by kernel_rfl) (by kernel_rfl) (by kernel_rfl) (fun _ _ _ h => h) (Or.inl ⟨by rfl, ?_⟩) hHeld ?_
  rotate_left
  · intro w hSw; (try dsimp only at hSw); go_simp
    all_goals (with_reducible rfl)
  (try simp only [Act.put, List.getElem_toArray, List.getElem_cons_succ, List.getElem_cons_zero, List.setIfInBounds_toArray, List.set_cons_zero, List.set_cons_succ])
  refine wpAnyH_take (i := 13) (v := ?_) rfl (by kernel_rfl) (by kernel_rfl) (by kernel_rfl) (fun _ _ _ h => h) (Or.inl ⟨by rfl, ?_⟩) hHeld ?_
  rotate_left
  · intro w hSw; (try dsimp only at hSw); go_simp
    all_goals (with_reducible rfl)
  (try simp only [Act.put, List.getElem_toArray, List.getElem_cons_succ, List.getElem_cons_zero, List.setIfInBounds_toArray, List.set_cons_zero, List.set_cons_succ])
  refine wpAnyH_take (i := 14) (v := ?_) rfl (by kernel_rfl) (by kernel_rfl) (by kernel_rfl) (fun _ _ _ h => h) (Or.inl ⟨by rfl, ?_⟩) hHeld ?_
  rotate_left
  · intro w hSw; (try dsimp only at hSw); go_simp
    all_goals (with_reducible rfl)
  (try simp only [Act.put, List.getElem_toArray, List.getElem_cons_succ, List.getElem_cons_zero, List.setIfInBounds_toArray, List.set_cons_zero, List.set_cons_succ])
  refine wpAnyH_done (by kernel_rfl) ?_ _
  clear hHeld
  obtain ⟨ua, uc, rfl, _⟩ := hU.row
  have hw3 := HWK.out w3
  clear d0 d1 d2 d3 d4 d5
  go_wp2_with (first
    | (go_at_call 11; refine (num17_any _ _).mono ?_; rintro _ _ ⟨rfl, rfl⟩)
    | (go_at_call 7; refine hw3.mono ?_; rintro _ w4 ⟨rfl, hb4⟩))
  go_ret
  have q := hb0.trans (hb02.mono hb0.size)
  have q2 := q.trans (hb23.mono q.size)
  exact ⟨rfl, q2.trans (hb4.mono q2.size)⟩

end Go.Proofs.YtlmdpcaikhdenaaGreat
