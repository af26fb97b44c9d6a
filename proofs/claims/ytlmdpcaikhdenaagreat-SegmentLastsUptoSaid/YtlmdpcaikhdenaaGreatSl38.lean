/- Texts of this claim, one behind the other: Fx5. -/
import Derived.Test.YtlmdpcaikhdenaaGreatSl37
set_option linter.unusedSimpArgs false
set_option linter.unusedVariables false
/- SegmentLasts: the walk, whatever is handed in. -/
namespace Go.Proofs.YtlmdpcaikhdenaaGreat
open Go.RowKit Go.Maps

theorem segLasts_walk {w : World} {f names torn : Int} {ha ma ka : Option Addr} {hc mc kc : Nat} {H M : List (List UInt8)} {keep : List Bool} (hH : EntsAt w ha H) (hM : EntsAt w ma M) (hhl : H.length ≤ maxLen) (hml : M.length ≤ maxLen) (hhb : ∀ e ∈ H, e.length ≤ 140737488355328) (hmb : ∀ e ∈ M, e.length ≤ 140737488355328)
    (hhn : ha = none → hc = 0) (hmn : ma = none → mc = 0) (hkr : RowAt w ka (keep.map Value.bool)) (htorn : torn < 9223372036854775808) :
    Calls Tryz.prog 4 #[.agg #[.int .i64 f, .slice ha H.length hc, .slice ma M.length mc, .int .i64 names, .slice ka keep.length kc, .int .i64 torn]] w fun e w' => e = .returned (.bool true) ∧ Below w.heap.size w w' := by
  cases hg1 : greatL H with
  | true => exact segLasts_great1 hH hM hhl hml hhb hmb hg1
  | false =>
    cases hg2 : greatL M with
    | true => exact segLasts_great2 hH hM hhl hml hhb hmb hg1 (.inl hg2)
    | false =>
      by_cases hk : 1000 < keep.length
      · exact segLasts_great2 hH hM hhl hml hhb hmb hg1 (.inr ⟨hg2, hk⟩)
      · by_cases hf : fitsE f 0 (H ++ M) = 0
        · exact segLasts_fits hH hM hhl hml hhb hmb hg1 hg2 (by omega) hhn hmn hkr htorn hf
        · exact segLasts_refused hH hM hhl hml hhb hmb hg1 hg2 (by omega) hhn hmn hf

end Go.Proofs.YtlmdpcaikhdenaaGreat
