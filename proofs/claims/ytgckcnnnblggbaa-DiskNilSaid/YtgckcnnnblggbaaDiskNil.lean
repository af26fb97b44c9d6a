/- Disk: DiskNil: a disk that is not there, and a zero one; the limits: the walk. -/
import Derived.Test.YtgckcnnnblggbaaDnM
import Derived.Test.YtgckcnnnblggbaaDlL
namespace Go.Proofs.Ytgckcnnnblggbaa
open Go.RowKit Go.Maps Go.Shelf
set_option maxRecDepth 1000000

set_option maxHeartbeats 2000000 in
theorem diskNil_walk (w : World) : Calls Try.prog 6 #[] w fun e w' => e = .returned (.bool true) ∧ Below w.heap.size w w' := by
  have B : Below w.heap.size w w := Below.refl _ _
  have cN := num_any
  have c1 := Has.new (cap := 1099511627776) (by decide) w
  have c2 := fun w => new_bad (cap := 1099511627777) (.inr (by decide)) w
  have c3 := fun w => new_bad (cap := -1) (.inl (by decide)) w
  go_enter Try.func6, Try.ntmps6
  go_wp2_with (first
    | (go_at_call 11; refine (cN _ _).mono ?_; rintro _ wn ⟨rfl, rfl⟩)
    | (go_at_call 9; refine (known_any _).mono ?_; rintro _ wn ⟨rfl, B2⟩; have B := B.trans (B2.mono B.size); clear B2)
    | (go_at_call 26; refine (nothing_true (v := some ⟨wq.heap.size, 0, none⟩) (w := wq.alloc (.cells #[.int .i64 0, .map none, .map none, .map none, .slice none 0 0, .slice none 0 0, .int .i64 0] 65)) (.inr ⟨wq.heap.size, 65, rfl, World.alloc_heap_new wq _⟩)).mono ?_; rintro _ wn ⟨rfl, B2⟩; have B := (B.alloc B.size _).trans (B2.mono (Nat.le_trans B.size (by simp))); clear B2)
    | (go_at_call 26; refine (nothing_true (v := none) (.inl rfl)).mono ?_; rintro _ wq ⟨rfl, B2⟩; have B := B.trans (B2.mono B.size); clear B2)
    | (go_at_call 25; with_reducible refine (c3 _).mono ?_; rintro _ wn ⟨rfl, rfl⟩)
    | (go_at_call 25; with_reducible refine (c2 _).mono ?_; rintro _ wn ⟨rfl, rfl⟩)
    | (go_at_call 25; refine c1.mono ?_; rintro _ wn ⟨p, rfl, H0, B2⟩; have B := B.trans (B2.mono B.size); clear B2))
  go_ret
  exact ⟨rfl, B⟩

end Go.Proofs.Ytgckcnnnblggbaa
