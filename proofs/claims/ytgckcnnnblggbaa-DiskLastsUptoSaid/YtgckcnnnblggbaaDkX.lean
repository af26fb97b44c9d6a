/- Disk: Stop: the map of the bytes. -/
import Derived.Test.YtgckcnnnblggbaaDkW
namespace Go.Proofs.Ytgckcnnnblggbaa
open Go.RowKit Go.Maps Go.Shelf

/-- how a slice that begins at its block's begin reads as an element of a map -/
def slcElem : Value → Option (DataW Unit × List MemPlace)
  | .slice none n c => some (.agg [.lit (.int .i64 (n : Int)), .lit (.int .i64 (c : Int))], [])
  | .slice (some ⟨b, 0, none⟩) n c => some (.agg [.lit (.int .i64 (b : Int)), .lit (.int .i64 (n : Int)), .lit (.int .i64 (c : Int))], [])
  | _ => none
theorem slcElem_inj {v u : Value} {y : DataW Unit} {ps qs : List MemPlace} (h1 : slcElem v = some (y, ps)) (h2 : slcElem u = some (y, qs)) : v = u := by
  unfold slcElem at h1 h2
  split at h1
  · split at h2
    · simp at h1 h2
      obtain ⟨h1, _⟩ := h1; obtain ⟨h2, _⟩ := h2
      rw [← h1] at h2
      simp at h2
      obtain ⟨e1, e2⟩ := h2
      rw [Int.natCast_inj.1 e1, Int.natCast_inj.1 e2]
    · simp at h1 h2
      obtain ⟨h1, _⟩ := h1; obtain ⟨h2, _⟩ := h2
      rw [← h1] at h2
      simp at h2
    · cases h2
  · split at h2
    · simp at h1 h2
      obtain ⟨h1, _⟩ := h1; obtain ⟨h2, _⟩ := h2
      rw [← h1] at h2
      simp at h2
    · simp at h1 h2
      obtain ⟨h1, _⟩ := h1; obtain ⟨h2, _⟩ := h2
      rw [← h1] at h2
      simp at h2
      obtain ⟨e1, e2, e3⟩ := h2
      rw [Int.natCast_inj.1 e1, Int.natCast_inj.1 e2, Int.natCast_inj.1 e3]
    · cases h2
  · cases h1
theorem slcElem_inv {v : Value} {y : DataW Unit × List MemPlace} (h : slcElem v = some y) : ∃ a n c, v = .slice a n c := by
  unfold slcElem at h
  split at h
  · exact ⟨_, _, _, rfl⟩
  · exact ⟨_, _, _, rfl⟩
  · cases h
theorem BytesIn.elem {w : World} {R : Nat → Prop} {v : Value} {l : List UInt8} (h : BytesIn w R v l) : ∃ y, slcElem v = some (y, []) := by
  obtain ⟨a, c, rfl, _, _, _, _, h5⟩ := h
  cases a with
  | none => exact ⟨_, rfl⟩
  | some x =>
    rw [h5 x rfl]
    exact ⟨_, rfl⟩

/-- a map from files' numbers to slices -/
def DatMap (W : World) (md n : Nat) (g : Nat → Option Value) : Prop :=
  ∃ D, W.ownsMap Try.prog 3 slcElem md n D ∧ (∀ f : Nat, has D (.int .i64 (f : Int)) = (g f).isSome) ∧ ∀ (f : Nat) v, g f = some v → ∃ y ps, slcElem v = some (y, ps) ∧ ∀ zd, D.atKey (.int .i64 (f : Int)) zd = y
theorem DatMap.of_chg {O : Nat → Prop} {W W' : World} {md n : Nat} {g : Nat → Option Value} (h : DatMap W md n g) (hc : Chg O W W') (hO : ¬ O md) : DatMap W' md n g := by
  obtain ⟨D, h1, h2, h3⟩ := h
  exact ⟨D, hc.map h1 hO, h2, h3⟩
theorem DatMap.lt {W : World} {md n : Nat} {g : Nat → Option Value} (h : DatMap W md n g) : md < W.heap.size := by obtain ⟨D, h1, _⟩ := h; exact h1.lt
theorem DatMap.made (w : World) : DatMap (w.alloc (.map #[] 0)) w.heap.size 0 (fun _ => none) :=
  ⟨.map [], World.ownsMap_made w _ _ _, fun _ => rfl, fun f v h => by cases h⟩
theorem key_i64 {f : Nat} (hf : f < 9223372036854775808) : keyOf Try.prog 3 (.int .i64 (f : Int)) = some (.int .i64 (f : Int)) := keyOf_int_mk Try.underlying3 (wf_i64 (by omega) (by omega))
theorem zero_slc : ∀ w, (zeroValue 28).run Try.prog w = .ok (.slice none 0 0) w := Try.zeroValue28
theorem DatMap.store {W : World} {md n : Nat} {g : Nat → Option Value} (h : DatMap W md n g) (hn : n < maxLen) {f : Nat} (hf : f < 9223372036854775808) {v : Value} {y : DataW Unit} {ps : List MemPlace} (hy : slcElem v = some (y, ps)) :
    ∃ W', (Instr.mapUpdate 95 (.map (some md)) (.int .i64 (f : Int)) v).run Try.prog W = .ok () W' ∧ DatMap W' md (n + 1) (fun x => if x = f then some v else g x) ∧ Chg (· = md) W W' := by
  have h0 := h
  obtain ⟨D, h1, h2, h3⟩ := h
  obtain ⟨W', hr, hm, ht⟩ := h1.store (int_keyed Try.underlying3) Try.underlying95 hn (key_i64 hf) hy
  refine ⟨W', hr, ?_, Chg.turned ht rfl⟩
  have hk : WideAt.IsKeyLit (.int .i64 (f : Int)) := trivial
  have hne : ∀ {x : Nat}, x ≠ f → (Lit.int .i64 (x : Int)) ≠ .int .i64 (f : Int) := fun hx e => hx (by simp at e; omega)
  refine ⟨_, hm, fun x => ?_, fun x u hu => ?_⟩
  · by_cases hx : x = f
    · subst hx; rw [has_put_same h1.isMap hk]; simp
    · rw [has_put_other (hne hx), h2]; simp [hx]
  · by_cases hx : x = f
    · subst hx
      simp at hu
      subst hu
      exact ⟨y, ps, hy, fun zd => atKey_put_same h1.isMap hk _ _⟩
    · simp [hx] at hu
      obtain ⟨y', ps', k1, k2⟩ := h3 x u hu
      exact ⟨y', ps', k1, fun zd => by rw [atKey_put_other (hne hx)]; exact k2 zd⟩
theorem DatMap.look {W : World} {md n : Nat} {g : Nat → Option Value} (h : DatMap W md n g) {f : Nat} (hf : f < 9223372036854775808) {v : Value} (hv : g f = some v) :
    (Instr.lookup 95 (.map (some md)) (.int .i64 (f : Int)) false).run Try.prog W = .ok v W := by
  obtain ⟨D, h1, h2, h3⟩ := h
  obtain ⟨u, qs, hr, hu⟩ := h1.lookup (int_keyed Try.underlying3) Try.underlying95 (zero_slc W) (zd := .agg [.lit (.int .i64 ((0 : Nat) : Int)), .lit (.int .i64 ((0 : Nat) : Int))]) (zp := []) rfl (key_i64 hf)
  obtain ⟨y, ps, k1, k2⟩ := h3 f v hv
  rw [k2] at hu
  rw [hr, slcElem_inj hu k1]
theorem DatMap.look_ok {W : World} {md n : Nat} {g : Nat → Option Value} (h : DatMap W md n g) {f : Nat} (hf : f < 9223372036854775808) :
    ∃ a m c, (Instr.lookup 95 (.map (some md)) (.int .i64 (f : Int)) true).run Try.prog W = .ok (.tuple #[.slice a m c, .bool (g f).isSome]) W := by
  obtain ⟨D, h1, h2, h3⟩ := h
  obtain ⟨u, qs, hr, hu⟩ := h1.look_ok (int_keyed Try.underlying3) Try.underlying95 (zero_slc W) (zd := .agg [.lit (.int .i64 ((0 : Nat) : Int)), .lit (.int .i64 ((0 : Nat) : Int))]) (zp := []) rfl (key_i64 hf)
  obtain ⟨a, m, c, rfl⟩ := slcElem_inv hu
  exact ⟨a, m, c, by rw [hr, h2]⟩

end Go.Proofs.Ytgckcnnnblggbaa
