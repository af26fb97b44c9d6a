/- known: contracts. -/
import Derived.Test.YtgckcnnnblggbaaDlJ
namespace Go.Proofs.Ytgckcnnnblggbaa
open Go.RowKit Go.Maps

section
variable {lo : Nat} {w : World} {p : Nat}
theorem kc_1 (h : Has lo w p (DSt.empty 6)) : Calls Try.prog 17 #[.pointer (some ⟨p, 0, none⟩), .string ⟨#[97]⟩] w fun e w' => e = .returned (.int .i64 0) ∧ Has lo w' p (kn [] [] 1) ∧ Below lo w w' := by
  have := h.create (k := [97]) (by decide) (N := 0) (DSt.Ok.empty (by decide) 0) (by decide)
  rw [kn_1] at this
  exact this
theorem kc_2 (h : Has lo w p (kn [] [] 1)) : Calls Try.prog 17 #[.pointer (some ⟨p, 0, none⟩), .string ⟨#[97]⟩] w fun e w' => e = .returned (.int .i64 8) ∧ Has lo w' p (kn [] [] 2) ∧ Below lo w w' := by
  have := h.create (k := [97]) (by decide) kn_ok1 (by decide)
  rw [kn_2] at this
  exact this
theorem kc_3 (h : Has lo w p (kn [] [] 2)) : Calls Try.prog 12 #[.pointer (some ⟨p, 0, none⟩), .string ⟨#[97]⟩, .int .i64 0, .slice (some ⟨w.heap.size, 0, none⟩) 3 3] (w.alloc (.cells #[.int .u8 1, .int .u8 2, .int .u8 3] 5)) fun e w' => e = .returned (.int .i64 0) ∧ Has lo w' p (kn [1, 2, 3] [⟨0, false, 0, [1, 2, 3]⟩] 3) ∧ Below lo w w' := by
  have hlo := h.lo
  have := (h.below (below_alloc w (.cells #[.int .u8 1, .int .u8 2, .int .u8 3] 5))).put (k := [97]) (by decide) (at_ := 0) (l := [1, 2, 3]) (xc := 3) (row_built w _ _) (by simp) (by decide) (by decide) kn_ok2 (by decide)
  rw [kn_3] at this
  exact this.mono fun e w' ⟨k1, k2, k3⟩ => ⟨k1, k2, ((Below.refl lo w).alloc (by omega) _).trans k3⟩
theorem kc_4 (h : Has lo w p (kn [1, 2, 3] [⟨0, false, 0, [1, 2, 3]⟩] 3)) : Calls Try.prog 12 #[.pointer (some ⟨p, 0, none⟩), .string ⟨#[97]⟩, .int .i64 4, .slice none 0 0] w fun e w' => e = .returned (.int .i64 2) ∧ Has lo w' p (kn [1, 2, 3] [⟨0, false, 0, [1, 2, 3]⟩] 4) ∧ Below lo w w' := by
  have := h.put (k := [97]) (by decide) (at_ := 4) (l := []) (xa := none) (xc := 0) (RowAt.nil _ _) (by simp) (by decide) (by decide) kn_ok3 (by decide)
  rw [kn_4] at this
  exact this
theorem kc_5 (h : Has lo w p (kn [1, 2, 3] [⟨0, false, 0, [1, 2, 3]⟩] 4)) : Calls Try.prog 12 #[.pointer (some ⟨p, 0, none⟩), .string ⟨#[97]⟩, .int .i64 3, .slice (some ⟨w.heap.size, 0, none⟩) 4 4] (w.alloc (.cells #[.int .u8 4, .int .u8 5, .int .u8 6, .int .u8 7] 5)) fun e w' => e = .returned (.int .i64 5) ∧ Has lo w' p (kn [1, 2, 3] [⟨0, false, 0, [1, 2, 3]⟩] 5) ∧ Below lo w w' := by
  have hlo := h.lo
  have := (h.below (below_alloc w (.cells #[.int .u8 4, .int .u8 5, .int .u8 6, .int .u8 7] 5))).put (k := [97]) (by decide) (at_ := 3) (l := [4, 5, 6, 7]) (xc := 4) (row_built w _ _) (by simp) (by decide) (by decide) kn_ok4 (by decide)
  rw [kn_5] at this
  exact this.mono fun e w' ⟨k1, k2, k3⟩ => ⟨k1, k2, ((Below.refl lo w).alloc (by omega) _).trans k3⟩
theorem kc_6 (h : Has lo w p (kn [1, 2, 3] [⟨0, false, 0, [1, 2, 3]⟩] 5)) : Calls Try.prog 21 #[.pointer (some ⟨p, 0, none⟩), .agg #[.int .i64 9, .slice (some ⟨w.heap.size, 0, none⟩) 1 1, .int .i64 2]] (w.alloc (.cells #[.bool true] 4)) fun e w' => ∃ po, e = .returned (.pointer (some ⟨po, 0, none⟩)) ∧ Has w.heap.size w' po (DSt.ofFiles 6 [([97], [1, 2])]) ∧ Below w.heap.size w w' := by
  have := (h.below (below_alloc w (.cells #[.bool true] 4))).stop (names := 9) (torn := 2) (keep := [true]) (kc := 1) (by decide) (row_built w _ _) (by decide) kn_ok5 (by decide)
  rw [kn_6] at this
  exact this.mono fun e w' ⟨po, k1, ⟨own, R, k2, k2'⟩, k3⟩ => ⟨po, k1, ⟨own, R, k2, fun b hb => by have := k2' b hb; rw [World.size_alloc] at this; omega⟩, ((below_alloc w _).trans (k3.mono (by simp)))⟩
theorem kc_7 (h : Has lo w p (kn [1, 2, 3] [⟨0, false, 0, [1, 2, 3]⟩] 5)) : Calls Try.prog 29 #[.pointer (some ⟨p, 0, none⟩)] w fun e w' => e = .returned (.int .i64 3) ∧ Below w.heap.size w w' := by
  have := h.room kn_ok5 (by decide)
  rw [kn_9] at this
  exact this
theorem kc_8 (h : Has lo w p (DSt.ofFiles 6 [([97], [1, 2])])) : Calls Try.prog 31 #[.pointer (some ⟨p, 0, none⟩)] w fun e w' => ∃ a c, e = .returned (.slice a 1 c) ∧ FilesRd w' a [([97], [1, 2])] ∧ Below w.heap.size w w' := by
  have := h.files kn_ok6 (by decide)
  rw [kn_8] at this
  exact this.mono fun e w' ⟨v, cs, k1, k2, k3⟩ => by
    obtain ⟨a, c, rfl, hr⟩ := FilesRd.of_at k2
    exact ⟨a, c, k1, hr, k3⟩
theorem kc_9 (h : Has lo w p (kn [1, 2, 3] [⟨0, false, 0, [1, 2, 3]⟩] 5)) : Calls Try.prog 22 #[.pointer (some ⟨p, 0, none⟩), .string ⟨#[97]⟩, .int .i64 1, .int .i64 9] w fun e w' => ∃ a c, e = .returned (.tuple #[.slice a 2 c, .int .i64 0]) ∧ RowAt w' a [bv 2, bv 3] ∧ Below w.heap.size w w' := by
  have := h.read (k := [97]) (by decide) (at_ := 1) (n := 9) (by decide) kn_ok5 (by decide)
  rw [kn_7] at this
  exact this.mono fun e w' ⟨U, k1, k2, k3⟩ => by
    obtain ⟨a, c, rfl, _, _, hr, _⟩ := k2
    exact ⟨a, c, k1, hr, k3⟩
theorem kc_F {a : Option Addr} {c : Nat} (h : FilesRd w a [([97], [1, 2])]) : Calls Try.prog 30 #[.slice a 1 c, .slice (some ⟨w.heap.size + 1, 0, none⟩) 1 1]
    ((w.alloc (.cells #[.int .u8 1, .int .u8 2] 5)).alloc (.cells #[.string ⟨#[97]⟩, .slice (some ⟨w.heap.size, 0, none⟩) 2 2] 30)) fun e w' => e = .returned (.bool true) ∧ Below w.heap.size w w' := by
  have hb : Below w.heap.size w ((w.alloc (.cells #[.int .u8 1, .int .u8 2] 5)).alloc (.cells #[.string ⟨#[97]⟩, .slice (some ⟨w.heap.size, 0, none⟩) 2 2] 30)) := (below_alloc w _).alloc (by simp) _
  have h2 : FilesRd ((w.alloc (.cells #[.int .u8 1, .int .u8 2] 5)).alloc (.cells #[.string ⟨#[97]⟩, .slice (some ⟨w.heap.size, 0, none⟩) 2 2] 30)) (some ⟨w.heap.size + 1, 0, none⟩) [([97], [1, 2])] := fun _ => by
    have hr := (row_built w #[.int .u8 1, .int .u8 2] 5).below (below_alloc (w.alloc (.cells #[.int .u8 1, .int .u8 2] 5)) (.cells #[.string ⟨#[97]⟩, .slice (some ⟨w.heap.size, 0, none⟩) 2 2] 30))
    have c0 := cell_new (w.alloc (.cells #[.int .u8 1, .int .u8 2] 5)) #[.string ⟨#[97]⟩, .slice (some ⟨w.heap.size, 0, none⟩) 2 2] 30 0 _ rfl
    have c1 := cell_new (w.alloc (.cells #[.int .u8 1, .int .u8 2] 5)) #[.string ⟨#[97]⟩, .slice (some ⟨w.heap.size, 0, none⟩) 2 2] 30 1 _ rfl
    rw [World.size_alloc] at c0 c1
    refine ⟨w.heap.size + 1, 0, rfl, fun i d hd => ?_⟩
    cases i with
    | zero =>
      obtain rfl : d = ([97], [1, 2]) := by simpa using hd.symm
      exact ⟨c0, _, _, c1, hr⟩
    | succ i => simp at hd
  exact (SameFiles_any (h.below hb) h2 (by decide)).mono fun e w' ⟨k1, k2⟩ => ⟨k1, hb.trans (k2.mono (by simp; omega))⟩
theorem kc_N1 : Calls Try.prog 7 #[.string ⟨#[97, 46, 49, 45, 98]⟩] w fun e w' => e = .returned (.bool true) ∧ w = w' := by
  have := Name_any [97, 46, 49, 45, 98] w (by decide)
  rw [ok_a1b] at this
  exact this
theorem kc_N2 : Calls Try.prog 7 #[.string ⟨#[65]⟩] w fun e w' => e = .returned (.bool false) ∧ w = w' := by
  have := Name_any [65] w (by decide)
  rw [ok_A] at this
  exact this
end

end Go.Proofs.Ytgckcnnnblggbaa
