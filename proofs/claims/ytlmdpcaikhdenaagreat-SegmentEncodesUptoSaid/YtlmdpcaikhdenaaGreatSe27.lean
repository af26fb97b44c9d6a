/- Texts of this claim, one behind the other: RfB. -/
import Derived.Test.YtlmdpcaikhdenaaGreatSe22
import Derived.Maps.Ext
set_option linter.unusedSimpArgs false
set_option linter.unusedVariables false
/- A map from files' numbers to pointers, filled in an order that nobody knows. -/
namespace Go.Proofs.YtlmdpcaikhdenaaGreat
open Go.RowKit Go.Maps

theorem ownsRow_at {w : World} {lo : Nat} {e : TypeId} {size : Nat} {v : Value} {n : Nat} {xs : List Value} (h : w.ownsRow lo e size v n xs) : ∃ a c, v = .slice a n c ∧ n ≤ c ∧ (a = none → c = 0) ∧ ∀ (i : Nat) u, xs[i]? = some u → ∃ g, a = some ⟨g, 0, none⟩ ∧ w.cell? ⟨g, i, none⟩ = some u := by
  rcases h.2 with ⟨rfl, rfl⟩ | ⟨g, cap, cur, rfl, _, hg, h1, _, _, ht⟩
  · exact ⟨none, 0, rfl, Nat.le_refl _, fun _ => rfl, fun i u hu => by have := h.1; simp at this; subst this; simp at hu⟩
  · refine ⟨_, cap, rfl, h1, (fun e => by cases e), fun i u hu => ⟨g, rfl, cell_of_heap hg ?_⟩⟩
    have : cur.toList[i]? = some u := by
      rw [← ht, List.getElem?_take] at hu
      split at hu
      · exact hu
      · cases hu
    simpa using this
/-- a map from numbers to the blocks g -/
def PtrMap (W : World) (m n : Nat) (g : Nat → Option Nat) : Prop :=
  ∃ D, W.ownsMap Tryz.prog 3 ptrElem m n D ∧ (∀ k : Lit, has D k = true → ∃ f : Nat, k = .int .i64 (f : Int)) ∧ (∀ f : Nat, has D (.int .i64 (f : Int)) = (g f).isSome) ∧ ∀ (f b : Nat), g f = some b → ∀ zd, D.atKey (.int .i64 (f : Int)) zd = .lit (.int .i64 (b : Int))
theorem PtrMap.of_chg {O : Nat → Prop} {W W' : World} {m n : Nat} {g : Nat → Option Nat} (h : PtrMap W m n g) (hc : Chg O W W') (hO : ¬ O m) : PtrMap W' m n g := by
  obtain ⟨D, h1, h2⟩ := h
  exact ⟨D, hc.map h1 hO, h2⟩
theorem PtrMap.made (w : World) : PtrMap (w.alloc (.map #[] 0)) w.heap.size 0 (fun _ => none) :=
  ⟨.map [], World.ownsMap_made w _ _ _, fun k h => (by cases h), fun _ => rfl, fun f b h => (by cases h)⟩
theorem PtrMap.mono {W : World} {m n n' : Nat} {g : Nat → Option Nat} (h : PtrMap W m n g) (hn : n ≤ n') : PtrMap W m n' g := by
  obtain ⟨D, h1, h2⟩ := h
  exact ⟨D, h1.mono hn, h2⟩
theorem PtrMap.store {W : World} {m n : Nat} {g : Nat → Option Nat} (h : PtrMap W m n g) (hn : n < maxLen) {f b : Nat} (hf : f < 9223372036854775808) :
    ∃ W', (Instr.mapUpdate 107 (.map (some m)) (.int .i64 (f : Int)) (.pointer (some ⟨b, 0, none⟩))).run Tryz.prog W = .ok () W' ∧ PtrMap W' m (n + 1) (fun x => if x = f then some b else g x) ∧ Chg (· = m) W W' := by
  obtain ⟨D, h1, h0, h2, h3⟩ := h
  obtain ⟨W', hr, hm, ht⟩ := h1.store (int_keyed Tryz.underlying3) Tryz.underlying107 hn (key_i64 hf) (ptrElem_mk b)
  refine ⟨W', hr, ?_, Chg.turned ht rfl⟩
  have hk : WideAt.IsKeyLit (.int .i64 (f : Int)) := trivial
  have hne : ∀ {x : Nat}, x ≠ f → (Lit.int .i64 (x : Int)) ≠ .int .i64 (f : Int) := fun hx e => hx (by simp at e; omega)
  refine ⟨_, hm, fun k hk' => ?_, fun x => ?_, fun x u hu => ?_⟩
  · by_cases hx : k = .int .i64 (f : Int)
    · exact ⟨f, hx⟩
    · rw [has_put_other hx] at hk'
      exact h0 k hk'
  · by_cases hx : x = f
    · subst hx; rw [has_put_same h1.isMap hk]; simp
    · rw [has_put_other (hne hx), h2]; simp [hx]
  · by_cases hx : x = f
    · subst hx
      simp at hu
      subst hu
      exact fun zd => atKey_put_same h1.isMap hk _ _
    · simp [hx] at hu
      exact fun zd => by rw [atKey_put_other (hne hx)]; exact h3 x u hu zd
theorem filesD_keys (fb : List Nat) {k : Lit} (h : has (filesD fb) k = true) : ∃ f : Nat, f < fb.length ∧ k = .int .i64 (f : Int) := by
  obtain ⟨p, hp, hs⟩ := List.any_eq_true.1 h
  obtain ⟨q, hq, rfl⟩ := List.mem_map.1 hp
  obtain ⟨_, h2, _⟩ := List.mem_zipIdx hq
  exact ⟨q.2, by simpa using h2, (WideAt.sameKey_eq hs).symm⟩
theorem filesD_has (fb : List Nat) (f : Nat) (hf : f < fb.length) : has (filesD fb) (.int .i64 (f : Int)) = true := by
  refine List.any_eq_true.2 ⟨fileE (fb[f], f), List.mem_map.2 ⟨(fb[f], f), ?_, rfl⟩, by simp [fileE, Lit.sameKey]⟩
  rw [List.mem_iff_getElem?]
  exact ⟨f, by rw [List.getElem?_zipIdx]; simp [hf]⟩
theorem filesD_canon {fb fb' : List Nat} (hl : fb'.length = fb.length) (h : Canon (filesD fb)) : Canon (filesD fb') := by
  obtain ⟨es, e, hp, hk⟩ := h
  unfold filesD at e
  simp only [DataW.map.injEq] at e
  subst e
  have keys : ∀ l : List Nat, (l.zipIdx.map fileE).map (·.1) = (List.range l.length).map (fun i : Nat => Lit.int .i64 (i : Int)) := fun l => by
    refine List.ext_getElem? fun i => ?_
    simp only [List.getElem?_map, List.getElem?_zipIdx]
    by_cases hi : i < l.length
    · simp [hi, fileE]
    · simp [hi]
  refine ⟨_, rfl, ?_, ?_⟩
  · have h1 : (((fb.zipIdx.map fileE).map (·.1)).Pairwise (fun p q => p.before q = true)) := List.pairwise_map.2 hp
    rw [keys, ← hl, ← keys] at h1
    exact List.pairwise_map.1 h1
  · intro p hp
    obtain ⟨q, hq, rfl⟩ := List.mem_map.1 hp
    trivial
/-- filled for all numbers: it is the files' map -/
theorem PtrMap.files {W : World} {m n : Nat} {g : Nat → Option Nat} (h : PtrMap W m n g) {fb fb' : List Nat} (hl : fb'.length = fb.length) (hc : Canon (filesD fb)) (hg : ∀ f, g f = fb'[f]?) : W.ownsMap Tryz.prog 3 ptrElem m n (filesD fb') := by
  obtain ⟨D, h1, h0, h2, h3⟩ := h
  have hD : D = filesD fb' := by
    refine Maps.ext (h1.canon (int_keyed Tryz.underlying3)) (filesD_canon hl hc) (fun k => ?_) (fun k z hk => ?_)
    · cases h4 : has D k with
      | true =>
        obtain ⟨f, rfl⟩ := h0 k h4
        rw [h2, hg] at h4
        have hf : f < fb'.length := by
          rcases Nat.lt_or_ge f fb'.length with h | h
          · exact h
          · rw [List.getElem?_eq_none h] at h4; cases h4
        exact (filesD_has fb' f hf).symm
      | false =>
        cases h5 : has (filesD fb') k with
        | false => rfl
        | true =>
          obtain ⟨f, hf, rfl⟩ := filesD_keys fb' h5
          rw [h2, hg] at h4
          simp [hf] at h4
    · obtain ⟨f, rfl⟩ := h0 k hk
      rw [h2, hg] at hk
      have hf : f < fb'.length := by
        rcases Nat.lt_or_ge f fb'.length with h | h
        · exact h
        · rw [List.getElem?_eq_none h] at hk; cases hk
      rw [h3 f fb'[f] (by rw [hg]; simp [hf]) z, filesD_at fb' f hf]
  rw [← hD]
  exact h1
/-- an element of the files' map is a pointer -/
theorem ptrElem_some {v : Value} {y : DataW Unit × List MemPlace} (h : ptrElem v = some y) : ∃ x : Option Nat, v = .pointer (x.map fun b => ⟨b, 0, none⟩) := by
  unfold ptrElem at h
  split at h
  · rename_i b; exact ⟨some b, rfl⟩
  · exact ⟨none, rfl⟩
  · cases h

end Go.Proofs.YtlmdpcaikhdenaaGreat
