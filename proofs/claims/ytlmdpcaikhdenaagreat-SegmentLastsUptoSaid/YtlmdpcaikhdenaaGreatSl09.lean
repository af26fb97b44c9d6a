/- Texts of this claim, one behind the other: SgO. -/
import Derived.Test.YtlmdpcaikhdenaaGreatSl08
set_option linter.unusedSimpArgs false
set_option linter.unusedVariables false
/- Segment: entries in memory; small steps of Decode. -/
namespace Go.Proofs.YtlmdpcaikhdenaaGreat
open Go.RowKit Go.Maps

theorem Tryz.info26 : (Tryz.prog.info? 26).map (fun i => (i.zero, i.size, i.bytes)) = some (some (.slice none 0 0), 1, 24) := by kernel_rfl
/-- entries in memory: their row and their bytes lie in blocks R -/
def EntIn (R : Nat → Prop) (w : World) (v : Value) (L : List (List UInt8)) : Prop :=
  ∃ vs, w.ownsRow 0 26 1 v L.length vs ∧ (∀ b, v.ownBlock = some b → R b) ∧ vs.length = L.length ∧ ∀ (i : Nat) x l, vs[i]? = some x → L[i]? = some l → BytesIn w R x l
theorem EntIn.kept {R R' O : Nat → Prop} {w w' : World} {v : Value} {L : List (List UInt8)} (h : EntIn R w v L) (hc : Chg O w w') (hO : ∀ b, R b → ¬ O b) (hR : ∀ b, R b → R' b) : EntIn R' w' v L := by
  obtain ⟨vs, h1, h2, h3, h4⟩ := h
  exact ⟨vs, hc.row h1 (fun b hb => hO b (h2 b hb)), fun b hb => hR b (h2 b hb), h3, fun i x l hx hl => (h4 i x l hx hl).kept hc hO hR⟩
theorem EntIn.below {R : Nat → Prop} {w w' : World} {v : Value} {L : List (List UInt8)} (h : EntIn R w v L) (hb : Below w.heap.size w w') : EntIn R w' v L := h.kept (O := fun _ => False) (Chg.of_below hb) (fun _ _ h => h) (fun _ h => h)
theorem EntIn.nil (R : Nat → Prop) (w : World) : EntIn R w (.slice none 0 0) [] := ⟨[], World.ownsRow_nil _ _ _ _, fun b h => (by cases h), rfl, fun i x l h => by simp at h⟩
theorem EntIn.slice {R : Nat → Prop} {w : World} {v : Value} {L : List (List UInt8)} (h : EntIn R w v L) : ∃ a c, v = .slice a L.length c := by
  obtain ⟨vs, h1, _⟩ := h
  obtain ⟨a, c, rfl, _⟩ := RowAt.of_owns h1
  exact ⟨a, c, rfl⟩
theorem ownsRow_ty {w : World} {base size n : Nat} {e : TypeId} {v : Value} {xs : List Value} (h : w.ownsRow base e size v n xs) {b : Nat} (hb : v.ownBlock = some b) : ∃ cs fr, w.heap[b]? = some (.cells cs e fr) := by
  rcases h.2 with ⟨rfl, _⟩ | ⟨g, cap, cur, rfl, _, hg, _⟩
  · cases hb
  · cases hb; exact ⟨cur, _, hg⟩
/-- one entry more -/
theorem EntIn.push {R : Nat → Prop} {w w1 w2 : World} {v v' x : Value} {L : List (List UInt8)} {l : List UInt8} {vs : List Value}
    (h1 : w.ownsRow 0 26 1 v L.length vs) (h2 : ∀ b, v.ownBlock = some b → R b) (h3 : vs.length = L.length) (h4 : ∀ (i : Nat) x l, vs[i]? = some x → L[i]? = some l → BytesIn w R x l) (hx : BytesIn w R x l)
    (hc : Chg (fun _ => False) w w1) (hr : w2.ownsRow 0 26 1 v' (L.length + 1) (vs ++ [x])) (hg : Grew v w1 v' w2) (hty : ∀ b cs fr, v.ownBlock = some b → w1.heap[b]? = some (.cells cs 5 fr) → False) (hR : ∀ b, w1.heap.size ≤ b → R b) : EntIn R w2 v' (L ++ [l]) := by
  have nb : ∀ {y : Value} {m : List UInt8}, BytesIn w R y m → BytesIn w2 R y m := fun {y m} hy => by
    have hy1 := hy.kept (R' := R) hc (fun _ _ h => h) (fun _ h => h)
    obtain ⟨a, c, e, k1, k2, k3, k4, k5, k6⟩ := hy1
    have off : ∀ b, v.ownBlock = some b → y.ownBlock ≠ some b := fun b hb hy2 => by
      subst e
      rcases k6.2 with ⟨e2, _⟩ | ⟨g, cap, cur, e2, _, hg2, _⟩
      · rw [e2] at hy2; cases hy2
      · rw [e2] at hy2
        cases hy2
        exact hty g cur _ hb hg2
    refine ⟨a, c, e, k1, k2, ?_, k4, k5, hg.1.row k6 (fun b hb ho => off b ho (by rw [e]; exact hb))⟩
    obtain ⟨a', c', e', hr', _⟩ := RowAt.of_owns (hg.1.row k6 (fun b hb ho => off b ho (by rw [e]; exact hb)))
    cases e'
    exact hr'
  refine ⟨vs ++ [x], by rw [List.length_append]; exact hr, fun b hb => ?_, by simp [h3], fun i y m hy hm => ?_⟩
  · rcases hg.2 with e | ⟨g, e, hge⟩
    · exact h2 b (by rw [← e]; exact hb)
    · rw [e] at hb; cases hb; exact hR _ hge
  · by_cases hi : i < vs.length
    · rw [List.getElem?_append_left hi] at hy
      rw [List.getElem?_append_left (by omega)] at hm
      exact nb (h4 i y m hy hm)
    · have hi2 : i = vs.length := by
        have := (List.getElem?_eq_some_iff.1 hy).1
        simp at this
        omega
      rw [List.getElem?_append_right (by omega), hi2] at hy
      rw [List.getElem?_append_right (by omega), hi2, h3] at hm
      simp at hy hm
      subst hy hm
      exact nb hx
theorem set5 {w : World} {g : Nat} {a b c d e x y z u v : Value} {t : TypeId} (h : w.heap[g]? = some (.cells #[a, b, c, d, e] t (0, 0))) : ∃ W, ((((w.setCell ⟨g, 0, none⟩ x).setCell ⟨g, 1, none⟩ y).setCell ⟨g, 2, none⟩ z).setCell ⟨g, 3, none⟩ u).setCell ⟨g, 4, none⟩ v = W ∧ W.heap[g]? = some (.cells #[x, y, z, u, v] t (0, 0)) ∧ Chg (· = g) w W := by
  have h1 := heap_set_cells (i := 0) x h
  have h2 := heap_set_cells (i := 1) y h1
  have h3 := heap_set_cells (i := 2) z h2
  have h4 := heap_set_cells (i := 3) u h3
  have h5 := heap_set_cells (i := 4) v h4
  refine ⟨_, rfl, by simpa using h5, ?_⟩
  have k : ∀ (w : World) (i : Nat) (q : Value), Chg (· = g) w (w.setCell ⟨g, i, none⟩ q) := fun w i q => Chg.set _ rfl
  exact ((((k _ _ _).trans (k _ _ _) (fun _ h _ => h)).trans (k _ _ _) (fun _ h _ => h)).trans (k _ _ _) (fun _ h _ => h)).trans (k _ _ _) (fun _ h _ => h)

/-! ### the segment of bytes, place by place -/
theorem readE_len {b : List UInt8} (h : readE b = 0) : readN b + 9 ≤ b.length := (readE_ok h).2.2.2.2.1

end Go.Proofs.YtlmdpcaikhdenaaGreat
