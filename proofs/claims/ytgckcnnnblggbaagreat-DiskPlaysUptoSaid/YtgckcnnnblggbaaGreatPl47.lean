/- Texts of this claim, one behind the other: RfA, RfB. -/
import Derived.Test.YtgckcnnnblggbaaGreatPl46
import Derived.Test.YtgckcnnnblggbaaGreatSt15
import Derived.Maps.Ext
set_option linter.unusedSimpArgs false
set_option linter.unusedVariables false
/- Plain: a bound that stays behind any steps, stops and copies: names that last and steps that are pending are no more than there were steps. -/
namespace Go.Proofs.YtgckcnnnblggbaaGreat
open Go.RowKit Go.Maps

/-- names that last and pending steps together -/
def DSt.pot (s : DSt) : Nat := s.sure.length + s.steps.length
structure DSt.OkP (s : DSt) (N : Nat) : Prop where
  ok : s.Ok N
  pot : s.pot ≤ N
theorem DSt.OkP.mono {s : DSt} {N M : Nat} (h : s.OkP N) (hm : N ≤ M) : s.OkP M := ⟨h.ok.mono hm, Nat.le_trans h.pot hm⟩
theorem pot_step (s : DSt) (x : NStep) : (s.step x).pot = s.pot + 1 := by
  show s.sure.length + (s.steps ++ [x]).length = s.sure.length + s.steps.length + 1
  rw [List.length_append]; simp; omega
theorem pot_create (s : DSt) (k : List UInt8) : (s.create k).1.pot ≤ s.pot + 1 := by
  unfold DSt.create; split
  · exact Nat.le_succ _
  · split
    · exact Nat.le_succ _
    · exact Nat.le_of_eq (pot_step _ _)
theorem pot_put (s : DSt) (k : List UInt8) (at_ : Int) (b : List UInt8) : (s.put k at_ b).1.pot ≤ s.pot + 1 := by
  unfold DSt.put; split
  · exact Nat.le_succ _
  · dsimp only
    split
    · exact Nat.le_succ _
    · split <;> exact Nat.le_succ _
theorem pot_cut (s : DSt) (k : List UInt8) (size : Int) : (s.cut k size).1.pot ≤ s.pot + 1 := by
  unfold DSt.cut; split
  · exact Nat.le_succ _
  · split <;> exact Nat.le_succ _
theorem pot_sync (s : DSt) (k : List UInt8) : (s.sync k).1.pot ≤ s.pot + 1 := by
  unfold DSt.sync; split <;> exact Nat.le_succ _
theorem pot_rename (s : DSt) (k t : List UInt8) : (s.rename k t).1.pot ≤ s.pot + 1 := by
  unfold DSt.rename; split
  · exact Nat.le_succ _
  · split
    · exact Nat.le_succ _
    · exact Nat.le_of_eq (pot_step _ _)
theorem pot_remove (s : DSt) (k : List UInt8) : (s.remove k).1.pot ≤ s.pot + 1 := by
  unfold DSt.remove; split
  · exact Nat.le_succ _
  · exact Nat.le_of_eq (pot_step _ _)
theorem DSt.OkP.stop {s : DSt} {N : Nat} (h : s.OkP N) (names : Int) (keep : List Bool) (torn : Int) : (s.stop names keep torn).OkP N := by
  have hl : (stopNames s names).length ≤ N := by
    have h1 := steps_len' s.sure (s.steps.take names.toNat)
    have h2 := h.pot
    unfold DSt.pot at h2
    unfold stopNames
    simp only [List.length_take] at h1
    omega
  refine ⟨?_, ?_⟩
  · unfold DSt.stop
    refine (DSt.Ok.ofFiles h.ok.room (stop_filesOk h.ok names keep torn)).mono ?_
    rw [List.length_map]
    exact hl
  · show (((stopNames s names).map fun p => (p.1, stopFile s keep (lastKept s (stopNames s names) keep s.writes.length) torn p.2 s.writes.length)).zipIdx.map fun p => (p.1.1, p.2)).length + ([] : List NStep).length ≤ N
    simpa using hl
theorem DSt.OkP.ofFiles {room : Nat} {l : List (List UInt8 × List UInt8)} (hr : room ≤ maxFile) (hl : FilesOk l) : (DSt.ofFiles room l).OkP l.length :=
  ⟨DSt.Ok.ofFiles hr hl, by show (l.zipIdx.map fun p => (p.1.1, p.2)).length + ([] : List NStep).length ≤ _; simp⟩

def OkPO (o : Option DSt) (N : Nat) : Prop := ∀ s, o = some s → s.OkP N
theorem OkPO.ok {o : Option DSt} {N : Nat} (h : OkPO o N) : OkO o N := fun s e => (h s e).ok
theorem OkPO.mono {o : Option DSt} {N M : Nat} (h : OkPO o N) (hm : N ≤ M) : OkPO o M := fun s e => (h s e).mono hm
theorem OkPO.none (N : Nat) : OkPO none N := fun s e => by cases e
theorem OkPO.act {o : Option DSt} {N : Nat} {f : DSt → DSt × Nat} (h : OkPO o N) (hf : ∀ s : DSt, s.Ok N → (f s).1.Ok (N + 1)) (hp : ∀ s : DSt, (f s).1.pot ≤ N + 1 ∨ (f s).1.pot ≤ s.pot + 1) : OkPO (actO f o).1 (N + 1) := by
  intro s e
  cases o with
  | none => cases e
  | some t =>
    cases e
    refine ⟨hf t (h t rfl).ok, ?_⟩
    have := (h t rfl).pot
    rcases hp t with h1 | h1 <;> omega
theorem stepO_okP {o : Option DSt} {N : Nat} (h : OkPO o N) (x : AStep) : OkPO (stepO o x) (N + 1) := by
  unfold stepO
  split
  · exact h.act (fun s hs => hs.create _) (fun s => .inr (pot_create s _))
  split
  · exact h.act (fun s hs => hs.put _ _ _) (fun s => .inr (pot_put s _ _ _))
  split
  · exact h.act (fun s hs => hs.cut _ _) (fun s => .inr (pot_cut s _ _))
  split
  · exact h.act (fun s hs => hs.sync _) (fun s => .inr (pot_sync s _))
  split
  · intro s e
    cases o with
    | none => cases e
    | some t =>
      cases e
      refine ⟨(h t rfl).ok.syncNames, ?_⟩
      have := (h t rfl).ok.manyNames
      show t.names.length + ([] : List NStep).length ≤ N + 1
      simp only [List.length_nil]
      omega
  split
  · exact h.act (fun s hs => hs.rename _ _) (fun s => .inr (pot_rename s _ _))
  split
  · exact h.act (fun s hs => hs.remove _) (fun s => .inr (pot_remove s _))
  · exact h.mono (by omega)
theorem stopO_okP {o : Option DSt} {N : Nat} {names torn : Int} {keep : List Bool} (h : OkPO o N) : OkPO (stopO names keep torn o) N := fun s e => by
  cases o with
  | none => cases e
  | some t => cases e; exact (h t rfl).stop _ _ _

end Go.Proofs.YtgckcnnnblggbaaGreat
/- A map from files' numbers to pointers, filled in an order that nobody knows. -/
namespace Go.Proofs.YtgckcnnnblggbaaGreat
open Go.RowKit Go.Maps

theorem ownsRow_at {w : World} {lo : Nat} {e : TypeId} {size : Nat} {v : Value} {n : Nat} {xs : List Value} (h : w.ownsRow lo e size v n xs) : ∃ a c, v = .slice a n c ∧ n ≤ c ∧ (a = none → c = 0) ∧ ∀ (i : Nat) u, xs[i]? = some u → ∃ g, a = some ⟨g, 0, none⟩ ∧ w.cell? ⟨g, i, none⟩ = some u := by
  rcases h.2 with ⟨rfl, rfl⟩ | ⟨g, cap, cur, rfl, _, hg, h1, _, _, ht⟩
  · exact ⟨none, 0, rfl, Nat.le_refl _, fun _ => rfl, fun i u hu => by have := h.1; simp at this; subst this; simp at hu⟩
  · refine ⟨_, cap, rfl, h1, (fun e => by cases e), fun i u hu => ⟨g, rfl, cell_of_heap hg ?_⟩⟩
    have : cur.toList[i]? = some u := by
      rw [← ht, List.getElem?_take] at hu
      split at hu
      · exact hu
      · cases hu
    simpa using this
/-- a map from numbers to the blocks g -/
def PtrMap (W : World) (m n : Nat) (g : Nat → Option Nat) : Prop :=
  ∃ D, W.ownsMap Tryz.prog 3 ptrElem m n D ∧ (∀ k : Lit, has D k = true → ∃ f : Nat, k = .int .i64 (f : Int)) ∧ (∀ f : Nat, has D (.int .i64 (f : Int)) = (g f).isSome) ∧ ∀ (f b : Nat), g f = some b → ∀ zd, D.atKey (.int .i64 (f : Int)) zd = .lit (.int .i64 (b : Int))
theorem PtrMap.of_chg {O : Nat → Prop} {W W' : World} {m n : Nat} {g : Nat → Option Nat} (h : PtrMap W m n g) (hc : Chg O W W') (hO : ¬ O m) : PtrMap W' m n g := by
  obtain ⟨D, h1, h2⟩ := h
  exact ⟨D, hc.map h1 hO, h2⟩
theorem PtrMap.made (w : World) : PtrMap (w.alloc (.map #[] 0)) w.heap.size 0 (fun _ => none) :=
  ⟨.map [], World.ownsMap_made w _ _ _, fun k h => (by cases h), fun _ => rfl, fun f b h => (by cases h)⟩
theorem PtrMap.mono {W : World} {m n n' : Nat} {g : Nat → Option Nat} (h : PtrMap W m n g) (hn : n ≤ n') : PtrMap W m n' g := by
  obtain ⟨D, h1, h2⟩ := h
  exact ⟨D, h1.mono hn, h2⟩
theorem PtrMap.store {W : World} {m n : Nat} {g : Nat → Option Nat} (h : PtrMap W m n g) (hn : n < maxLen) {f b : Nat} (hf : f < 9223372036854775808) :
    ∃ W', (Instr.mapUpdate 68 (.map (some m)) (.int .i64 (f : Int)) (.pointer (some ⟨b, 0, none⟩))).run Tryz.prog W = .ok () W' ∧ PtrMap W' m (n + 1) (fun x => if x = f then some b else g x) ∧ Chg (· = m) W W' := by
  obtain ⟨D, h1, h0, h2, h3⟩ := h
  obtain ⟨W', hr, hm, ht⟩ := h1.store (int_keyed Tryz.underlying3) Tryz.underlying68 hn (key_i64 hf) (ptrElem_mk b)
  refine ⟨W', hr, ?_, Chg.turned ht rfl⟩
  have hk : WideAt.IsKeyLit (.int .i64 (f : Int)) := trivial
  have hne : ∀ {x : Nat}, x ≠ f → (Lit.int .i64 (x : Int)) ≠ .int .i64 (f : Int) := fun hx e => hx (by simp at e; omega)
  refine ⟨_, hm, fun k hk' => ?_, fun x => ?_, fun x u hu => ?_⟩
  · by_cases hx : k = .int .i64 (f : Int)
    · exact ⟨f, hx⟩
    · rw [has_put_other hx] at hk'
      exact h0 k hk'
  · by_cases hx : x = f
    · subst hx; rw [has_put_same h1.isMap hk]; simp
    · rw [has_put_other (hne hx), h2]; simp [hx]
  · by_cases hx : x = f
    · subst hx
      simp at hu
      subst hu
      exact fun zd => atKey_put_same h1.isMap hk _ _
    · simp [hx] at hu
      exact fun zd => by rw [atKey_put_other (hne hx)]; exact h3 x u hu zd
theorem filesD_keys (fb : List Nat) {k : Lit} (h : has (filesD fb) k = true) : ∃ f : Nat, f < fb.length ∧ k = .int .i64 (f : Int) := by
  obtain ⟨p, hp, hs⟩ := List.any_eq_true.1 h
  obtain ⟨q, hq, rfl⟩ := List.mem_map.1 hp
  obtain ⟨_, h2, _⟩ := List.mem_zipIdx hq
  exact ⟨q.2, by simpa using h2, (WideAt.sameKey_eq hs).symm⟩
theorem filesD_has (fb : List Nat) (f : Nat) (hf : f < fb.length) : has (filesD fb) (.int .i64 (f : Int)) = true := by
  refine List.any_eq_true.2 ⟨fileE (fb[f], f), List.mem_map.2 ⟨(fb[f], f), ?_, rfl⟩, by simp [fileE, Lit.sameKey]⟩
  rw [List.mem_iff_getElem?]
  exact ⟨f, by rw [List.getElem?_zipIdx]; simp [hf]⟩
theorem filesD_canon {fb fb' : List Nat} (hl : fb'.length = fb.length) (h : Canon (filesD fb)) : Canon (filesD fb') := by
  obtain ⟨es, e, hp, hk⟩ := h
  unfold filesD at e
  simp only [DataW.map.injEq] at e
  subst e
  have keys : ∀ l : List Nat, (l.zipIdx.map fileE).map (·.1) = (List.range l.length).map (fun i : Nat => Lit.int .i64 (i : Int)) := fun l => by
    refine List.ext_getElem? fun i => ?_
    simp only [List.getElem?_map, List.getElem?_zipIdx]
    by_cases hi : i < l.length
    · simp [hi, fileE]
    · simp [hi]
  refine ⟨_, rfl, ?_, ?_⟩
  · have h1 : (((fb.zipIdx.map fileE).map (·.1)).Pairwise (fun p q => p.before q = true)) := List.pairwise_map.2 hp
    rw [keys, ← hl, ← keys] at h1
    exact List.pairwise_map.1 h1
  · intro p hp
    obtain ⟨q, hq, rfl⟩ := List.mem_map.1 hp
    trivial
/-- filled for all numbers: it is the files' map -/
theorem PtrMap.files {W : World} {m n : Nat} {g : Nat → Option Nat} (h : PtrMap W m n g) {fb fb' : List Nat} (hl : fb'.length = fb.length) (hc : Canon (filesD fb)) (hg : ∀ f, g f = fb'[f]?) : W.ownsMap Tryz.prog 3 ptrElem m n (filesD fb') := by
  obtain ⟨D, h1, h0, h2, h3⟩ := h
  have hD : D = filesD fb' := by
    refine Maps.ext (h1.canon (int_keyed Tryz.underlying3)) (filesD_canon hl hc) (fun k => ?_) (fun k z hk => ?_)
    · cases h4 : has D k with
      | true =>
        obtain ⟨f, rfl⟩ := h0 k h4
        rw [h2, hg] at h4
        have hf : f < fb'.length := by
          rcases Nat.lt_or_ge f fb'.length with h | h
          · exact h
          · rw [List.getElem?_eq_none h] at h4; cases h4
        exact (filesD_has fb' f hf).symm
      | false =>
        cases h5 : has (filesD fb') k with
        | false => rfl
        | true =>
          obtain ⟨f, hf, rfl⟩ := filesD_keys fb' h5
          rw [h2, hg] at h4
          simp [hf] at h4
    · obtain ⟨f, rfl⟩ := h0 k hk
      rw [h2, hg] at hk
      have hf : f < fb'.length := by
        rcases Nat.lt_or_ge f fb'.length with h | h
        · exact h
        · rw [List.getElem?_eq_none h] at hk; cases hk
      rw [h3 f fb'[f] (by rw [hg]; simp [hf]) z, filesD_at fb' f hf]
  rw [← hD]
  exact h1
/-- an element of the files' map is a pointer -/
theorem ptrElem_some {v : Value} {y : DataW Unit × List MemPlace} (h : ptrElem v = some y) : ∃ x : Option Nat, v = .pointer (x.map fun b => ⟨b, 0, none⟩) := by
  unfold ptrElem at h
  split at h
  · rename_i b; exact ⟨some b, rfl⟩
  · exact ⟨none, rfl⟩
  · cases h

end Go.Proofs.YtgckcnnnblggbaaGreat
