/- Disk: is any text a name? By the program and by the document. -/
import Derived.Test.YtgckcnnnblggbaaDlL
namespace Go.Proofs.Ytgckcnnnblggbaa
open Go.RowKit Go.Maps

theorem diskNames_walk (l : List UInt8) (hl : l.length ≤ 9223372036854775807) (w : World) :
    Calls Try.prog 3 #[.string ⟨l.toArray⟩] w fun e w' => e = .returned (.bool true) ∧ Below w.heap.size w w' := by
  have c1 := Name_any l w hl
  have c2 := rName_any l w hl
  have cK := known_any w
  go_enter Try.func3, Try.ntmps3
  go_wp2_with (first
    | (go_at_call 7; refine c1.mono ?_; rintro _ w1 ⟨rfl, rfl⟩)
    | (go_at_call 8; refine c2.mono ?_; rintro _ w1 ⟨rfl, rfl⟩)
    | (go_at_call 9; refine cK.mono ?_; rintro _ w1 ⟨rfl, B1⟩))
  go_ret
  exact ⟨rfl, B1⟩

end Go.Proofs.Ytgckcnnnblggbaa
