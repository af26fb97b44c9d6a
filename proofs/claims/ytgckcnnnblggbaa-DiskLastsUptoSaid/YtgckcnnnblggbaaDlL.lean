/- Disk: known, walked. -/
import Derived.Test.YtgckcnnnblggbaaDlK
import Derived.Handy
namespace Go.Proofs.Ytgckcnnnblggbaa
open Go.RowKit Go.Maps
set_option maxRecDepth 100000 in
set_option maxHeartbeats 1000000 in
theorem known_any (w : World) : Calls Try.prog 9 #[] w fun e w' => e = .returned (.bool true) ∧ Below w.heap.size w w' := by
  have c0 := Has.new (cap := 6) (by decide) w
  have cN := num_any
  go_enter Try.func9, Try.ntmps9
  go_wp2_with (first
    | (go_at_call 11; refine (cN _ _).mono ?_; rintro _ wn ⟨rfl, rfl⟩)
    | (go_at_call 22; refine (kc_9 HDc).mono ?_; rintro _ wd ⟨ra, rc, rfl, hrr, BD⟩
       have hcv1 : (convert 28 9 (.slice ra 2 rc)).run Try.prog wd = .ok (.string ⟨#[2, 3]⟩) wd := run_conv (P := Try.prog) 28 9 5 Try.underlying28 Try.underlying5 Try.underlying9 (c := rc) (l := [2, 3]) hrr
       have hcv2 : (convert 28 9 (.slice (some ⟨wd.heap.size, 0, none⟩) 2 2)).run Try.prog (wd.alloc (.cells #[.int .u8 2, .int .u8 3] 5)) = .ok (.string ⟨#[2, 3]⟩) (wd.alloc (.cells #[.int .u8 2, .int .u8 3] 5)) := run_conv (P := Try.prog) 28 9 5 Try.underlying28 Try.underlying5 Try.underlying9 (c := 2) (l := [2, 3]) (row_built wd #[.int .u8 2, .int .u8 3] _))
    | (go_at_call 7; with_reducible refine kc_N1.mono ?_; rintro _ we ⟨rfl, rfl⟩)
    | (go_at_call 7; with_reducible refine kc_N2.mono ?_; rintro _ we ⟨rfl, rfl⟩)
    | (go_at_call 30; refine (kc_F hfr).mono ?_; rintro _ wc ⟨rfl, BC⟩; have HDc := ((HD8.below BA).below BB).below BC)
    | (go_at_call 31; refine (kc_8 HS).mono ?_; rintro _ wb ⟨fa, fc, rfl, hfr, BB⟩)
    | (go_at_call 29; refine (kc_7 HD8).mono ?_; rintro _ wa ⟨rfl, BA⟩; have HS := HS8.below BA)
    | (go_at_call 28; refine HD8.steps.mono ?_; rintro _ w9 ⟨rfl, rfl⟩)
    | (go_at_call 21; refine (kc_6 H7).mono ?_; rintro _ w8 ⟨po, rfl, HS8, B7⟩; have HD8 := H7.below B7)
    | (go_at_call 27; refine H5.pending.mono ?_; rintro _ w7 ⟨rfl, B6⟩; have H7 := H5.below B6)
    | (go_at_call 12; refine (kc_5 H4).mono ?_; rintro _ w6 ⟨rfl, H5, B5⟩)
    | (go_at_call 12; refine (kc_4 H3).mono ?_; rintro _ w5 ⟨rfl, H4, B4⟩)
    | (go_at_call 12; refine (kc_3 H2).mono ?_; rintro _ w4 ⟨rfl, H3, B3⟩)
    | (go_at_call 17; refine (kc_2 H1).mono ?_; rintro _ w3 ⟨rfl, H2, B2⟩)
    | (go_at_call 17; refine (kc_1 H0).mono ?_; rintro _ w2 ⟨rfl, H1, B1⟩)
    | (go_at_call 25; refine c0.mono ?_; rintro _ w1 ⟨p, rfl, H0, B0⟩)
    )
  go_ret
  refine ⟨rfl, ?_⟩
  have k6 := ((((B0.trans B1).trans B2).trans B3).trans B4).trans B5
  have k7 := k6.trans (B6.mono k6.size)
  have k8 := k7.trans (B7.mono k7.size)
  have ka := k8.trans (BA.mono k8.size)
  have kb := ka.trans (BB.mono ka.size)
  have kc := kb.trans (BC.mono kb.size)
  have kd := kc.trans (BD.mono kc.size)
  exact kd.alloc kd.size _

end Go.Proofs.Ytgckcnnnblggbaa
