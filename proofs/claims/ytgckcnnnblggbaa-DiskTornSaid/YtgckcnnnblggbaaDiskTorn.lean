/- Disk: DiskTorn: of kept writes the last one is torn: the walk. -/
import Derived.Test.YtgckcnnnblggbaaDtA
import Derived.Handy
namespace Go.Proofs.Ytgckcnnnblggbaa
open Go.RowKit Go.Maps

set_option maxRecDepth 100000 in
set_option maxHeartbeats 2000000 in
theorem diskTorn_walk (w : World) : Calls Try.prog 4 #[] w fun e w' => e = .returned (.bool true) ∧ Below w.heap.size w w' := by
  have c0 := tc_0 w
  have cN := num_any
  have s1 := fun a => run_slice_hi (P := Try.prog) 35 4 Try.underlying35 Try.sizeOf4 a 3 3 1 (by omega)
  have s4 := fun a => run_slice_hi (P := Try.prog) 35 4 Try.underlying35 Try.sizeOf4 a 5 5 4 (by omega)
  simp only [Int.cast_ofNat_Int] at s1 s4
  go_enter Try.func4, Try.ntmps4
  go_wp2_with (first
    | (go_at_call 11; refine (cN _ _).mono ?_; rintro _ wn ⟨rfl, rfl⟩)
    | (go_at_call 9; refine (known_any _).mono ?_; rintro _ wk ⟨rfl, BK⟩)
    | (go_at_call 15; refine (tl_f H6c hlc).mono ?_; rintro _ wz ⟨rfl, BZ⟩)
    | (go_at_call 15; refine (tl_e H6b hlb).mono ?_; rintro _ wy ⟨rfl, BY⟩; have H6c := H6b.below BY; have hlc : RowAt wy _ (([false, false, false, true] : List Bool).map Value.bool) := hlb.below BY)
    | (go_at_call 15; refine (tl_d H6a hla).mono ?_; rintro _ wx ⟨rfl, BX⟩; have H6b := H6a.below BX; have hlb : RowAt wx _ (([false, false, false, true] : List Bool).map Value.bool) := (hla.take 4).below BX)
    | (go_at_call 12; refine (tc_6 H5).mono ?_; rintro _ w6 ⟨rfl, H6, B6⟩; obtain ⟨wB, hwB⟩ : ∃ wB, w6.alloc (.cells #[.bool false, .bool false, .bool false, .bool true, .bool true] 4) = wB := ⟨_, rfl⟩; have H6a : Has w.heap.size wB p tn6 := (by rw [← hwB]; exact H6.below (below_alloc w6 _)); have hla : RowAt wB (some ⟨w6.heap.size, 0, none⟩) (([false, false, false, true, true] : List Bool).map Value.bool) := (by rw [← hwB]; exact row_built w6 _ _); have KB : Below w6.heap.size w6 wB := (by rw [← hwB]; exact below_alloc w6 _))
    | (go_at_call 12; refine (tc_5 H4d).mono ?_; rintro _ w5 ⟨rfl, H5, B5⟩)
    | (go_at_call 15; refine (tl_c H4c hkc).mono ?_; rintro _ wc ⟨rfl, BC⟩; have H4d := H4c.below BC)
    | (go_at_call 15; refine (tl_b H4b hkb).mono ?_; rintro _ wb ⟨rfl, BB⟩; have H4c := H4b.below BB; have hkc : RowAt wb _ (([true] : List Bool).map Value.bool) := (hkb.take 1).below BB)
    | (go_at_call 15; refine (tl_a H4a hka).mono ?_; rintro _ wa ⟨rfl, BA⟩; have H4b := H4a.below BA; have hkb : RowAt wa _ (([true, true, true] : List Bool).map Value.bool) := hka.below BA)
    | (go_at_call 14; refine (tc_4 H3).mono ?_; rintro _ w4 ⟨rfl, H4, B4⟩; obtain ⟨wA, hwA⟩ : ∃ wA, w4.alloc (.cells #[.bool true, .bool true, .bool true] 4) = wA := ⟨_, rfl⟩; have H4a : Has w.heap.size wA p tn4 := (by rw [← hwA]; exact H4.below (below_alloc w4 _)); have hka : RowAt wA (some ⟨w4.heap.size, 0, none⟩) (([true, true, true] : List Bool).map Value.bool) := (by rw [← hwA]; exact row_built w4 _ _); have KA : Below w4.heap.size w4 wA := (by rw [← hwA]; exact below_alloc w4 _))
    | (go_at_call 13; refine (tc_3 H2).mono ?_; rintro _ w3 ⟨rfl, H3, B3⟩)
    | (go_at_call 12; refine (tc_2 H1).mono ?_; rintro _ w2 ⟨rfl, H2, B2⟩)
    | (go_at_call 12; refine (tc_1 H0).mono ?_; rintro _ w1 ⟨rfl, H1, B1⟩)
    | (go_at_call 10; refine c0.mono ?_; rintro _ w0 ⟨p, rfl, H0, B0⟩))
  go_ret
  refine ⟨rfl, ?_⟩
  have k4 := (((B0.trans B1).trans B2).trans B3).trans B4
  have ka' := k4.trans (KA.mono k4.size)
  have ka := ka'.trans (BA.mono ka'.size)
  have kb := ka.trans (BB.mono ka.size)
  have kc := kb.trans (BC.mono kb.size)
  have k6 := (kc.trans B5).trans B6
  have kx' := k6.trans (KB.mono k6.size)
  have kx := kx'.trans (BX.mono kx'.size)
  have ky := kx.trans (BY.mono kx.size)
  have kz := ky.trans (BZ.mono ky.size)
  exact kz.trans (BK.mono kz.size)

end Go.Proofs.Ytgckcnnnblggbaa
