/- Walks of the names layer: a copy of names; Each. -/
import Derived.Test.YtfoaoofaldiajaaNmR
namespace Go.Proofs.Ytfoaoofaldiajaa
open Go.RowKit Go.Maps

theorem Try.info9 : (Try.prog.info? 9).map (fun i => (i.zero, i.size, i.bytes)) = some (some (.string ⟨#[]⟩), 1, 16) := by kernel_rfl

set_option maxRecDepth 100000 in
set_option maxHeartbeats 400000 in
theorem Clone_any (a : Option Addr) (cap : Nat) (L : List (List UInt8)) (w : World) (hL : L.length ≤ 1000000000) (hnil : a = none → cap = 0) (hrow : RowAt w a (L.map sv)) :
    Calls Try.prog 23 #[.slice a L.length cap] w fun e w' => ∃ a' cap', e = .returned (.slice a' L.length cap') ∧ (a' = none → cap' = 0) ∧ RowAt w' a' (L.map sv) ∧ Below w.heap.size w w' ∧ (∀ b off sp, a' = some ⟨b, off, sp⟩ → w.heap.size ≤ b ∧ b < w'.heap.size) := by
  obtain ⟨i0, hi, hz0, hz1, hz2⟩ := info_parts Try.info9
  have q : ∀ (w : World) (a : Option Addr) (n c n' c' : Nat), (binOp .eql 22 (.slice a n c) (.slice none n' c')).run Try.prog w = .ok (.bool a.isNone) w := fun w a n c n' c' => Lib.run_eql_slice_nil w _ _ a n c n' c' Try.underlying22
  cases a with
  | none =>
    have hL0 : L = [] := by
      by_cases h : L = []
      · exact h
      · obtain ⟨b, off, e, _⟩ := hrow (by simpa using h); cases e
    subst hL0
    go_enter Try.func23, Try.ntmps23
    go_wp2
    go_ret
    exact ⟨none, 0, rfl, fun _ => rfl, RowAt.nil _ _, Below.refl _ _, by simp⟩
  | some ad =>
    go_enter Try.func23, Try.ntmps23
    go_wp2_with (at_builtin; go_loud (refine wpList_append_any _ rfl _ _ 22 rfl w.heap.size 9 i0 (.string ⟨#[]⟩) 16 Try.underlying22 hi hz0 hz1 hz2 rfl _ _ _ rfl (World.ownsRow_made w #[] 0 (Nat.le_refl _) (Nat.zero_le _) rfl) (some ad) L.length cap (L.map sv) rfl (by simp) (by simp) ?_ ?_ (by unfold maxLen; omega) (by omega) (by simp) ?_))
    · exact hrow.below ((Below.refl _ _).alloc (Nat.le_refl _) _)
    · intro u hu; obtain ⟨x, _, rfl⟩ := List.mem_map.1 hu; rfl
    · intro v' w1 hown0 hgrow
      have hown1 : w1.ownsRow w.heap.size 9 1 v' L.length (L.map sv) := by simpa using hown0
      have hlt := hown1.lt
      obtain ⟨a', cap', rfl, hr, _⟩ := RowAt.of_owns hown1
      have hnz : a' = none → cap' = 0 := by
        rcases hown1.2 with ⟨h, _⟩ | ⟨g, c, cur, h, _⟩
        · simp at h; intro _; exact h.2.2
        · simp at h; intro e; rw [e] at h; simp at h
      go_wp2
      go_ret
      refine ⟨a', cap', rfl, hnz, hr, ?_, ?_⟩
      · exact ((Below.refl _ _).alloc (Nat.le_refl _) _).grown hgrow (by simp) (fun k e => by cases e; exact Nat.le_refl _)
      · intro b off sp e; subst e; exact hlt b rfl

end Go.Proofs.Ytfoaoofaldiajaa
