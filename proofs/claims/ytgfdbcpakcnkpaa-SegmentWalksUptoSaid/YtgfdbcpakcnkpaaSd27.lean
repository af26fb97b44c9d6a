/- Texts of this claim, one behind the other: RfB, RfC, FaA, SgZ, Sha, Shb. -/
import Derived.Test.YtgfdbcpakcnkpaaSd22
import Derived.Maps.Ext
import Derived.Deep.RegionHeld3
import Derived.Test.YtgfdbcpakcnkpaaSd26
import Derived.Test.YtgfdbcpakcnkpaaSd21
import Derived.Handy
set_option linter.unusedSimpArgs false
set_option linter.unusedVariables false
/- A map from files' numbers to pointers, filled in an order that nobody knows. -/
namespace Go.Proofs.Ytgfdbcpakcnkpaa
open Go.RowKit Go.Maps

theorem ownsRow_at {w : World} {lo : Nat} {e : TypeId} {size : Nat} {v : Value} {n : Nat} {xs : List Value} (h : w.ownsRow lo e size v n xs) : ∃ a c, v = .slice a n c ∧ n ≤ c ∧ (a = none → c = 0) ∧ ∀ (i : Nat) u, xs[i]? = some u → ∃ g, a = some ⟨g, 0, none⟩ ∧ w.cell? ⟨g, i, none⟩ = some u := by
  rcases h.2 with ⟨rfl, rfl⟩ | ⟨g, cap, cur, rfl, _, hg, h1, _, _, ht⟩
  · exact ⟨none, 0, rfl, Nat.le_refl _, fun _ => rfl, fun i u hu => by have := h.1; simp at this; subst this; simp at hu⟩
  · refine ⟨_, cap, rfl, h1, (fun e => by cases e), fun i u hu => ⟨g, rfl, cell_of_heap hg ?_⟩⟩
    have : cur.toList[i]? = some u := by
      rw [← ht, List.getElem?_take] at hu
      split at hu
      · exact hu
      · cases hu
    simpa using this
/-- a map from numbers to the blocks g -/
def PtrMap (W : World) (m n : Nat) (g : Nat → Option Nat) : Prop :=
  ∃ D, W.ownsMap Try.prog 3 ptrElem m n D ∧ (∀ k : Lit, has D k = true → ∃ f : Nat, k = .int .i64 (f : Int)) ∧ (∀ f : Nat, has D (.int .i64 (f : Int)) = (g f).isSome) ∧ ∀ (f b : Nat), g f = some b → ∀ zd, D.atKey (.int .i64 (f : Int)) zd = .lit (.int .i64 (b : Int))
theorem PtrMap.of_chg {O : Nat → Prop} {W W' : World} {m n : Nat} {g : Nat → Option Nat} (h : PtrMap W m n g) (hc : Chg O W W') (hO : ¬ O m) : PtrMap W' m n g := by
  obtain ⟨D, h1, h2⟩ := h
  exact ⟨D, hc.map h1 hO, h2⟩
theorem PtrMap.made (w : World) : PtrMap (w.alloc (.map #[] 0)) w.heap.size 0 (fun _ => none) :=
  ⟨.map [], World.ownsMap_made w _ _ _, fun k h => (by cases h), fun _ => rfl, fun f b h => (by cases h)⟩
theorem PtrMap.mono {W : World} {m n n' : Nat} {g : Nat → Option Nat} (h : PtrMap W m n g) (hn : n ≤ n') : PtrMap W m n' g := by
  obtain ⟨D, h1, h2⟩ := h
  exact ⟨D, h1.mono hn, h2⟩
theorem PtrMap.store {W : World} {m n : Nat} {g : Nat → Option Nat} (h : PtrMap W m n g) (hn : n < maxLen) {f b : Nat} (hf : f < 9223372036854775808) :
    ∃ W', (Instr.mapUpdate 82 (.map (some m)) (.int .i64 (f : Int)) (.pointer (some ⟨b, 0, none⟩))).run Try.prog W = .ok () W' ∧ PtrMap W' m (n + 1) (fun x => if x = f then some b else g x) ∧ Chg (· = m) W W' := by
  obtain ⟨D, h1, h0, h2, h3⟩ := h
  obtain ⟨W', hr, hm, ht⟩ := h1.store (int_keyed Try.underlying3) Try.underlying82 hn (key_i64 hf) (ptrElem_mk b)
  refine ⟨W', hr, ?_, Chg.turned ht rfl⟩
  have hk : WideAt.IsKeyLit (.int .i64 (f : Int)) := trivial
  have hne : ∀ {x : Nat}, x ≠ f → (Lit.int .i64 (x : Int)) ≠ .int .i64 (f : Int) := fun hx e => hx (by simp at e; omega)
  refine ⟨_, hm, fun k hk' => ?_, fun x => ?_, fun x u hu => ?_⟩
  · by_cases hx : k = .int .i64 (f : Int)
    · exact ⟨f, hx⟩
    · rw [has_put_other hx] at hk'
      exact h0 k hk'
  · by_cases hx : x = f
    · subst hx; rw [has_put_same h1.isMap hk]; simp
    · rw [has_put_other (hne hx), h2]; simp [hx]
  · by_cases hx : x = f
    · subst hx
      simp at hu
      subst hu
      exact fun zd => atKey_put_same h1.isMap hk _ _
    · simp [hx] at hu
      exact fun zd => by rw [atKey_put_other (hne hx)]; exact h3 x u hu zd
theorem filesD_keys (fb : List Nat) {k : Lit} (h : has (filesD fb) k = true) : ∃ f : Nat, f < fb.length ∧ k = .int .i64 (f : Int) := by
  obtain ⟨p, hp, hs⟩ := List.any_eq_true.1 h
  obtain ⟨q, hq, rfl⟩ := List.mem_map.1 hp
  obtain ⟨_, h2, _⟩ := List.mem_zipIdx hq
  exact ⟨q.2, by simpa using h2, (WideAt.sameKey_eq hs).symm⟩
theorem filesD_has (fb : List Nat) (f : Nat) (hf : f < fb.length) : has (filesD fb) (.int .i64 (f : Int)) = true := by
  refine List.any_eq_true.2 ⟨fileE (fb[f], f), List.mem_map.2 ⟨(fb[f], f), ?_, rfl⟩, by simp [fileE, Lit.sameKey]⟩
  rw [List.mem_iff_getElem?]
  exact ⟨f, by rw [List.getElem?_zipIdx]; simp [hf]⟩
theorem filesD_canon {fb fb' : List Nat} (hl : fb'.length = fb.length) (h : Canon (filesD fb)) : Canon (filesD fb') := by
  obtain ⟨es, e, hp, hk⟩ := h
  unfold filesD at e
  simp only [DataW.map.injEq] at e
  subst e
  have keys : ∀ l : List Nat, (l.zipIdx.map fileE).map (·.1) = (List.range l.length).map (fun i : Nat => Lit.int .i64 (i : Int)) := fun l => by
    refine List.ext_getElem? fun i => ?_
    simp only [List.getElem?_map, List.getElem?_zipIdx]
    by_cases hi : i < l.length
    · simp [hi, fileE]
    · simp [hi]
  refine ⟨_, rfl, ?_, ?_⟩
  · have h1 : (((fb.zipIdx.map fileE).map (·.1)).Pairwise (fun p q => p.before q = true)) := List.pairwise_map.2 hp
    rw [keys, ← hl, ← keys] at h1
    exact List.pairwise_map.1 h1
  · intro p hp
    obtain ⟨q, hq, rfl⟩ := List.mem_map.1 hp
    trivial
/-- filled for all numbers: it is the files' map -/
theorem PtrMap.files {W : World} {m n : Nat} {g : Nat → Option Nat} (h : PtrMap W m n g) {fb fb' : List Nat} (hl : fb'.length = fb.length) (hc : Canon (filesD fb)) (hg : ∀ f, g f = fb'[f]?) : W.ownsMap Try.prog 3 ptrElem m n (filesD fb') := by
  obtain ⟨D, h1, h0, h2, h3⟩ := h
  have hD : D = filesD fb' := by
    refine Maps.ext (h1.canon (int_keyed Try.underlying3)) (filesD_canon hl hc) (fun k => ?_) (fun k z hk => ?_)
    · cases h4 : has D k with
      | true =>
        obtain ⟨f, rfl⟩ := h0 k h4
        rw [h2, hg] at h4
        have hf : f < fb'.length := by
          rcases Nat.lt_or_ge f fb'.length with h | h
          · exact h
          · rw [List.getElem?_eq_none h] at h4; cases h4
        exact (filesD_has fb' f hf).symm
      | false =>
        cases h5 : has (filesD fb') k with
        | false => rfl
        | true =>
          obtain ⟨f, hf, rfl⟩ := filesD_keys fb' h5
          rw [h2, hg] at h4
          simp [hf] at h4
    · obtain ⟨f, rfl⟩ := h0 k hk
      rw [h2, hg] at hk
      have hf : f < fb'.length := by
        rcases Nat.lt_or_ge f fb'.length with h | h
        · exact h
        · rw [List.getElem?_eq_none h] at hk; cases hk
      rw [h3 f fb'[f] (by rw [hg]; simp [hf]) z, filesD_at fb' f hf]
  rw [← hD]
  exact h1
/-- an element of the files' map is a pointer -/
theorem ptrElem_some {v : Value} {y : DataW Unit × List MemPlace} (h : ptrElem v = some y) : ∃ x : Option Nat, v = .pointer (x.map fun b => ⟨b, 0, none⟩) := by
  unfold ptrElem at h
  split at h
  · rename_i b; exact ⟨some b, rfl⟩
  · exact ⟨none, rfl⟩
  · cases h

end Go.Proofs.Ytgfdbcpakcnkpaa
/- Disk: Copy. (printed by gen/copy.py) -/
namespace Go.Proofs.Ytgfdbcpakcnkpaa
open Go.RowKit Go.Maps Go.Shelf

theorem step_one {w : World} {R : Nat → Prop} {v : Value} {x : NStep} (h : StepIn w R v x) : v.oneCell' = true := by
  cases x with
  | create k n => obtain ⟨x, y, e, _⟩ := h; rw [e]; rfl
  | rename f t => obtain ⟨x, y, e, _⟩ := h; rw [e]; rfl
  | remove k => obtain ⟨x, e, _⟩ := h; rw [e]; rfl
theorem write_one {w : World} {R : Nat → Prop} {c : List Value} {x : Wr} (h : WrIn w R c x) : ∀ u ∈ c, u.oneCell' = true := by
  obtain ⟨f, rfl, hl⟩ := h
  have hf : f.oneCell' = true := by
    unfold LayIn at hl
    split at hl
    · obtain ⟨y, e, _⟩ := hl; rw [e]; rfl
    · obtain ⟨y, z, u, e, _⟩ := hl; rw [e]; rfl
  intro u hu
  simp only [List.mem_cons, List.not_mem_nil, or_false] at hu
  rcases hu with rfl | rfl | rfl | rfl
  · rfl
  · rfl
  · rfl
  · exact hf

theorem below_drew2 (w : World) : Below w.heap.size w w.drew := ⟨rfl, rfl, rfl, Nat.le_refl _, fun _ _ => rfl⟩
/-- a file's twin: the same two slices in a block of its own -/
def TwinOf (w wr : World) (fb : List Nat) (f b : Nat) : Prop := ∃ b0 e vd vs, fb[f]? = some b0 ∧ w.heap[b0]? = some (.cells #[vd, vs] e (0, 0)) ∧ wr.heap[b]? = some (.cells #[vd, vs] 92 (0, 0))
theorem TwinOf.chg {w wr wr' : World} {fb : List Nat} {f b : Nat} {O : Nat → Prop} (h : TwinOf w wr fb f b) (hc : Chg O wr wr') (hO : ¬ O b) : TwinOf w wr' fb f b := by
  obtain ⟨b0, e, vd, vs, h1, h2, h3⟩ := h
  exact ⟨b0, e, vd, vs, h1, h2, hc.obj h3 hO⟩

theorem own_nodup {bx m1 m2 A B C D : Nat} {vs' vw' : Value} {fb' : List Nat} (h1 : bx < m1) (h2 : m1 < A) (hfb : ∀ b ∈ fb', A ≤ b ∧ b < B) (hfn : fb'.Nodup) (hm2 : B ≤ m2) (hAB : A ≤ B) (hm2' : m2 < C) (hvs : ∀ b, vs'.ownBlock = some b → C ≤ b ∧ b < D) (hvw : ∀ b, vw'.ownBlock = some b → D ≤ b) (hCD : C ≤ D) : (ownL bx m1 m2 vs' vw' fb').Nodup := by
  have hone : ∀ o : Option Nat, o.toList.Nodup := fun o => by cases o <;> simp
  have mem : ∀ {b : Nat}, b ∈ vs'.ownBlock.toList ++ (vw'.ownBlock.toList ++ fb') → (C ≤ b) ∨ (A ≤ b ∧ b < B) := fun {b} hb => by
    rcases List.mem_append.1 hb with hb | hb
    · exact .inl (hvs b (by simpa using hb)).1
    rcases List.mem_append.1 hb with hb | hb
    · exact .inl (by have := hvw b (by simpa using hb); omega)
    · exact .inr (hfb b hb)
  unfold ownL
  refine List.nodup_cons.2 ⟨fun hb => ?_, List.nodup_cons.2 ⟨fun hb => ?_, List.nodup_cons.2 ⟨fun hb => ?_, List.nodup_append.2 ⟨hone _, List.nodup_append.2 ⟨hone _, hfn, fun x hx y hy e => ?_⟩, fun x hx y hy e => ?_⟩⟩⟩⟩
  · rcases List.mem_cons.1 hb with h | hb
    · omega
    rcases List.mem_cons.1 hb with h | hb
    · omega
    · rcases mem hb with h | h <;> omega
  · rcases List.mem_cons.1 hb with h | hb
    · omega
    · rcases mem hb with h | h <;> omega
  · rcases mem hb with h | h <;> omega
  · have h1 := hvw x (by simpa using hx)
    have h2 := (hfb y hy).2
    omega
  · have h1 := hvs x (by simpa using hx)
    rcases List.mem_append.1 hy with hy | hy
    · have h2 := hvw y (by simpa using hy); omega
    · have h2 := (hfb y hy).2; omega
theorem copy_done {w w' : World} {p : Nat} {s : DSt} {R : Nat → Prop} {mf mn ms : Nat} {fb : List Nat} {vs vw : Value} {ss : List Value} {ws : List (List Value)} {e t : TypeId} (h : DiskP w p s R mf mn ms fb vs vw ss ws e) (hb : Below w.heap.size w w')
    {bx m1 m2 m3 : Nat} {vs' vw' : Value} {fb' : List Nat} (hx : w'.heap[bx]? = some (.cells #[.int .i64 (s.room : Int), .map (some m1), .map (some m2), .map (some m3), vs', vw', .int .i64 (s.done : Int)] t (0, 0)))
    (hm1 : w'.ownsMap Try.prog 3 ptrElem m1 fb'.length (filesD fb')) (hm2 : w'.ownsMap Try.prog 9 (plainElem Try.prog 3) m2 s.names.length (nameD s.names)) (hm3 : w'.ownsMap Try.prog 9 (plainElem Try.prog 3) m3 s.sure.length (nameD s.sure))
    (hl : fb'.length = fb.length) (htw : ∀ (f : Nat) b, fb'[f]? = some b → TwinOf w w' fb f b) (hs : w'.ownsRow 0 98 1 vs' s.steps.length ss) (hw : w'.ownsRow 0 104 4 vw' s.writes.length ws.flatten)
    (hap : (ownL bx m1 m2 vs' vw' fb').Nodup) (hnew : ∀ b ∈ ownL bx m1 m2 vs' vw' fb', w.heap.size ≤ b ∧ b < w'.heap.size) (hm3n : w.heap.size ≤ m3 ∧ m3 < w'.heap.size ∧ m3 ∉ ownL bx m1 m2 vs' vw' fb') :
    DiskP w' bx s (RNew R w w' (ownL bx m1 m2 vs' vw' fb')) m1 m2 m3 fb' vs' vw' ss ws t := by
  have hc := Chg.of_below (O := fun _ => False) hb
  have hR : ∀ b, R b → RNew R w w' (ownL bx m1 m2 vs' vw' fb') b := fun b hb => .inl hb
  exact {
    cells := hx
    filesM := hm1
    namesM := hm2
    sureM := hm3
    count := hl.trans h.count
    file := fun i b d hb hd => by
      obtain ⟨b0, e0, vd, vs0, k1, k2, k3⟩ := htw i b hb
      obtain ⟨e1, vd1, vs1, k4, k5, k6⟩ := h.file i b0 d k1 hd
      rw [k2] at k4
      simp only [Option.some.injEq, Obj.cells.injEq] at k4
      have e2 : vd = vd1 ∧ vs0 = vs1 := by have := congrArg Array.toList k4.1; simpa using this
      obtain ⟨rfl, rfl⟩ := e2
      exact ⟨_, vd, vs0, k3, k5.kept hc (fun _ _ h => h) hR, k6.kept hc (fun _ _ h => h) hR⟩
    stepsR := hs
    step := fun i v x hv hx => (h.step i v x hv hx).kept hc (fun _ _ h => h) hR
    writesR := hw
    count4 := h.count4
    write := fun i c x hc' hx => (h.write i c x hc' hx).kept hc (fun _ _ h => h) hR
    apart := hap
    own := fun b hb' => ⟨(hnew b hb').2, fun hr => by
      rcases hr with hr | hr
      · have h1 := (hnew b hb').1
        have h2 := h.shared b hr
        omega
      · exact hr.2.2 hb'⟩
    shared := fun b hr => by
      rcases hr with hr | hr
      · have h2 := h.shared b hr
        have := hb.size
        omega
      · exact hr.2.1
    sureR := .inr hm3n }


end Go.Proofs.Ytgfdbcpakcnkpaa
/- The program's disk by itself: the blocks that it writes, those that it reads, too. (printed by gen/one.py) -/
namespace Go.Proofs.Ytgfdbcpakcnkpaa
open Go.RowKit Go.Maps

/-- the program's disk s lies at p; F are the blocks that it writes, G those that it reads, too -/
def One (F G : Nat → Prop) (w : World) (p : Nat) (s : DSt) : Prop := ∃ own R, DiskAt w p s own R ∧ (∀ b, F b ↔ b ∈ own) ∧ ∀ b, G b ↔ R b
/-- a step: what is written and read from now on is of the old blocks, or new -/
def Moved (F G F' G' : Nat → Prop) (w w' : World) : Prop := Chg F w w' ∧ (∀ b, F' b → (F b ∨ w.heap.size ≤ b) ∧ b < w'.heap.size) ∧ ∀ b, G' b → (G b ∨ w.heap.size ≤ b) ∧ b < w'.heap.size
section
variable {F G : Nat → Prop} {w : World} {p : Nat} {s : DSt} {N : Nat}
theorem One.has (h : One F G w p s) : Has 0 w p s := by
  obtain ⟨own, R, h1, _⟩ := h
  exact ⟨own, R, h1, fun _ _ => Nat.zero_le _⟩
theorem One.lt (h : One F G w p s) : (∀ b, F b → b < w.heap.size) ∧ (∀ b, G b → b < w.heap.size) ∧ (∀ b, F b → ¬ G b) ∧ F p := by
  obtain ⟨own, R, h1, h2, h3⟩ := h
  exact ⟨fun b hb => h1.own_lt ((h2 b).1 hb), fun b hb => (h1.shared ((h3 b).1 hb)).1, fun b hb hg => (h1.shared ((h3 b).1 hg)).2 ((h2 b).1 hb), (h2 p).2 h1.p_mem⟩
theorem One.kept (h : One F G w p s) {O : Nat → Prop} {w' : World} (hc : Chg O w w') (hF : ∀ b, F b → ¬ O b) (hG : ∀ b, G b → ¬ O b) : One F G w' p s := by
  obtain ⟨own, R, ⟨mf, mn, ms, fb, vs, vw, ss, ws, e, h1, rfl⟩, h2, h3⟩ := h
  exact ⟨_, R, ⟨mf, mn, ms, fb, vs, vw, ss, ws, e, h1.kept hc (fun b hb => hG b ((h3 b).2 hb)) (fun b hb => hF b ((h2 b).2 hb)), rfl⟩, h2, h3⟩
theorem One.below (h : One F G w p s) {w' : World} (hb : Below w.heap.size w w') : One F G w' p s := h.kept (O := fun _ => False) (Chg.of_below hb) (fun _ _ h => h) (fun _ _ h => h)
theorem One.turn {w' : World} {s' : DSt} {own : List Nat} {R : Nat → Prop} (h2 : ∀ b, F b ↔ b ∈ own) (h3 : ∀ b, G b ↔ R b) (ht : Turns w w' p s' own R) : ∃ F' G', One F' G' w' p s' ∧ Moved F G F' G' w w' := by
  obtain ⟨own', k1, k2, k3⟩ := ht
  have ho : One (fun b => b ∈ own') (RNew R w w' own') w' p s' := ⟨own', _, k1, fun _ => Iff.rfl, fun _ => Iff.rfl⟩
  refine ⟨_, _, ho, k2.mono (fun b hb _ => (h2 b).2 hb), fun b hb => ⟨(k3 b hb).imp (h2 b).2 id, ho.lt.1 b hb⟩, fun b hb => ⟨?_, ho.lt.2.1 b hb⟩⟩
  rcases hb with hb | hb
  · exact .inl ((h3 b).2 hb)
  · exact .inr hb.1
theorem One.create (h : One F G w p s) {k : List UInt8} (hk : k.length ≤ maxLen) (hok : s.Ok N) (hN : N + 1 < maxList) :
    Calls Try.prog 11 #[.pointer (some ⟨p, 0, none⟩), .string ⟨k.toArray⟩] w fun e w' => e = .returned (.int .i64 ((s.create k).2 : Int)) ∧ ∃ F' G', One F' G' w' p (s.create k).1 ∧ Moved F G F' G' w w' := by
  obtain ⟨own, R, ⟨mf, mn, ms, fb, vs, vw, ss, ws, e, h1, rfl⟩, h2, h3⟩ := h
  exact (Create_any h1 hk hok (by omega)).mono fun e w' ⟨k1, k2⟩ => ⟨k1, One.turn h2 h3 k2⟩
theorem One.put (h : One F G w p s) {k : List UInt8} (hk : k.length ≤ maxLen) {at_ : Int} {xa : Option Addr} {xc : Nat} {l : List UInt8} (hrow : RowAt w xa (l.map bv)) (hnil : xa = none → xc = 0) (hl : l.length ≤ 140737488355328) (h64 : -9223372036854775808 ≤ at_ ∧ at_ < 9223372036854775808) (hok : s.Ok N) (hN : N + 1 < maxList) :
    Calls Try.prog 12 #[.pointer (some ⟨p, 0, none⟩), .string ⟨k.toArray⟩, .int .i64 at_, .slice xa l.length xc] w fun e w' => e = .returned (.int .i64 ((s.put k at_ l).2 : Int)) ∧ ∃ F' G', One F' G' w' p (s.put k at_ l).1 ∧ Moved F G F' G' w w' := by
  obtain ⟨own, R, ⟨mf, mn, ms, fb, vs, vw, ss, ws, e, h1, rfl⟩, h2, h3⟩ := h
  exact (Write_any h1 hk hok hN hrow hnil hl h64).mono fun e w' ⟨k1, k2⟩ => ⟨k1, One.turn h2 h3 k2⟩
theorem One.cut (h : One F G w p s) {k : List UInt8} (hk : k.length ≤ maxLen) {size : Int} (h64 : -9223372036854775808 ≤ size ∧ size < 9223372036854775808) (hok : s.Ok N) (hN : N + 1 < maxList) :
    Calls Try.prog 40 #[.pointer (some ⟨p, 0, none⟩), .string ⟨k.toArray⟩, .int .i64 size] w fun e w' => e = .returned (.int .i64 ((s.cut k size).2 : Int)) ∧ ∃ F' G', One F' G' w' p (s.cut k size).1 ∧ Moved F G F' G' w w' := by
  obtain ⟨own, R, ⟨mf, mn, ms, fb, vs, vw, ss, ws, e, h1, rfl⟩, h2, h3⟩ := h
  exact (Cut_any h1 hk hok hN h64).mono fun e w' ⟨k1, k2⟩ => ⟨k1, One.turn h2 h3 k2⟩
theorem One.sync (h : One F G w p s) {k : List UInt8} (hk : k.length ≤ maxLen) (hok : s.Ok N) (hN : N + 1 < maxList) :
    Calls Try.prog 13 #[.pointer (some ⟨p, 0, none⟩), .string ⟨k.toArray⟩] w fun e w' => e = .returned (.int .i64 ((s.sync k).2 : Int)) ∧ ∃ F' G', One F' G' w' p (s.sync k).1 ∧ Moved F G F' G' w w' := by
  obtain ⟨own, R, ⟨mf, mn, ms, fb, vs, vw, ss, ws, e, h1, rfl⟩, h2, h3⟩ := h
  exact (Sync_any h1 hk hok hN).mono fun e w' ⟨k1, k2⟩ => ⟨k1, One.turn h2 h3 k2⟩
theorem One.syncNames (h : One F G w p s)  (hok : s.Ok N) (hN : N + 1 < maxList) :
    Calls Try.prog 14 #[.pointer (some ⟨p, 0, none⟩)] w fun e w' => e = .returned (.int .i64 ((s.syncNames).2 : Int)) ∧ ∃ F' G', One F' G' w' p (s.syncNames).1 ∧ Moved F G F' G' w w' := by
  obtain ⟨own, R, ⟨mf, mn, ms, fb, vs, vw, ss, ws, e, h1, rfl⟩, h2, h3⟩ := h
  exact (SyncNames_any h1 hok hN).mono fun e w' ⟨k1, k2⟩ => ⟨k1, One.turn h2 h3 k2⟩
theorem One.rename (h : One F G w p s) {k t : List UInt8} (hk : k.length ≤ maxLen) (ht : t.length ≤ maxLen) (hok : s.Ok N) (hN : N + 1 < maxList) :
    Calls Try.prog 41 #[.pointer (some ⟨p, 0, none⟩), .string ⟨k.toArray⟩, .string ⟨t.toArray⟩] w fun e w' => e = .returned (.int .i64 ((s.rename k t).2 : Int)) ∧ ∃ F' G', One F' G' w' p (s.rename k t).1 ∧ Moved F G F' G' w w' := by
  obtain ⟨own, R, ⟨mf, mn, ms, fb, vs, vw, ss, ws, e, h1, rfl⟩, h2, h3⟩ := h
  exact (Rename_any h1 hk ht hok hN).mono fun e w' ⟨k1, k2⟩ => ⟨k1, One.turn h2 h3 k2⟩
theorem One.remove (h : One F G w p s) {k : List UInt8} (hk : k.length ≤ maxLen) (hok : s.Ok N) (hN : N + 1 < maxList) :
    Calls Try.prog 9 #[.pointer (some ⟨p, 0, none⟩), .string ⟨k.toArray⟩] w fun e w' => e = .returned (.int .i64 ((s.remove k).2 : Int)) ∧ ∃ F' G', One F' G' w' p (s.remove k).1 ∧ Moved F G F' G' w w' := by
  obtain ⟨own, R, ⟨mf, mn, ms, fb, vs, vw, ss, ws, e, h1, rfl⟩, h2, h3⟩ := h
  exact (Remove_any h1 hk hok hN).mono fun e w' ⟨k1, k2⟩ => ⟨k1, One.turn h2 h3 k2⟩
end
/-- a disk of files, new -/
theorem One.of {w w' : World} {p : Nat} {s : DSt} {own : List Nat} {R : Nat → Prop} (h : DiskAt w' p s own R) (ho : ∀ b ∈ own, w.heap.size ≤ b) (hR : ∀ b, R b → w.heap.size ≤ b) : ∃ F G, One F G w' p s ∧ (∀ b, F b → w.heap.size ≤ b ∧ b < w'.heap.size) ∧ ∀ b, G b → w.heap.size ≤ b ∧ b < w'.heap.size := by
  have h1 : One (fun b => b ∈ own) R w' p s := ⟨own, R, h, fun _ => Iff.rfl, fun _ => Iff.rfl⟩
  exact ⟨_, _, h1, fun b hb => ⟨ho b hb, h1.lt.1 b hb⟩, fun b hb => ⟨hR b hb, h1.lt.2.1 b hb⟩⟩

end Go.Proofs.Ytgfdbcpakcnkpaa
/- Segment: step and Begin over the program's disk. -/
namespace Go.Proofs.Ytgfdbcpakcnkpaa
open Go.RowKit Go.Maps

/-- the disk as a device -/
def devD (p : Nat) : Value := .iface 31 (.pointer (some ⟨p, 0, none⟩))
/-- a segment's name -/
def segName (f : Int) : List UInt8 := nameL 115 f.toNat 16
theorem segName_len (f : Int) : (segName f).length = 17 := nameL_len _ _ _
theorem sname_any {f : Int} (h0 : 0 ≤ f) (h1 : f ≤ 9223372036854775807) (w : World) : Calls Try.prog 99 #[.int .i64 f] w fun e w' => e = .returned (.tuple #[.string ⟨(segName f).toArray⟩, .int .i64 0]) ∧ Below w.heap.size w w' := by
  have h := Segment_any f w h1
  rw [nameAns, if_neg (by omega)] at h
  exact h
/-- a number that is no segment's: no step is done -/
theorem step_bad {w : World} {f : Int} (hf : f < 0 ∨ 4611686018427387904 < f) (h1 : f ≤ 9223372036854775807) (v dv : Value) :
    Calls Try.prog 81 #[v, .int .i64 f, dv] w fun e w' => e = .returned (.int .i64 4) ∧ Below w.heap.size w w' := by
  by_cases h0 : f < 0
  · have h : Calls Try.prog 99 #[.int .i64 f] w fun e w' => e = .returned (.tuple #[.string ⟨#[]⟩, .int .i64 4]) ∧ Below w.heap.size w w' := by
      have h := Segment_any f w h1
      rw [nameAns, if_pos h0] at h
      exact h
    clear hf h1 h0
    go_enter Try.func81, Try.ntmps81
    go_wp2_with (go_at_call 99; refine h.mono ?_; rintro e w' ⟨rfl, hb⟩)
    go_ret
    exact ⟨rfl, hb⟩
  · have h := sname_any (by omega) h1 w
    have g1 : decide (4611686018427387904 < f) = true := by simp; omega
    clear hf h1 h0
    go_enter Try.func81, Try.ntmps81
    go_wp2_with (go_at_call 99; refine h.mono ?_; rintro e w' ⟨rfl, hb⟩)
    go_ret
    exact ⟨rfl, hb⟩
section
variable {F G : Nat → Prop} {w : World} {p : Nat} {s : DSt} {N : Nat}
theorem Moved.after {F G F' G' : Nat → Prop} {w w1 w2 : World} (hb : Below w.heap.size w w1) (h : Moved F G F' G' w1 w2) : Moved F G F' G' w w2 :=
  ⟨(Chg.of_below hb).trans h.1 (fun _ h _ => h), fun b hb' => ⟨(h.2.1 b hb').1.imp id (fun k => Nat.le_trans hb.size k), (h.2.1 b hb').2⟩, fun b hb' => ⟨(h.2.2 b hb').1.imp id (fun k => Nat.le_trans hb.size k), (h.2.2 b hb').2⟩⟩
set_option maxHeartbeats 2000000 in
theorem stepCreate_any (h : One F G w p s) {f : Int} (h0 : 0 ≤ f) (h1 : f ≤ 4611686018427387904) (hok : s.Ok N) (hN : N + 1 < maxList) :
    Calls Try.prog 81 #[devD p, .int .i64 f, .func (.method "Create") #[devD p] #[]] w fun e w' => e = .returned (.int .i64 ((s.create (segName f)).2 : Int)) ∧ ∃ F' G', One F' G' w' p (s.create (segName f)).1 ∧ Moved F G F' G' w w' := by
  have hn := sname_any h0 (by omega) w
  have hc : ∀ W, Below w.heap.size w W → Calls Try.prog 11 #[.pointer (some ⟨p, 0, none⟩), .string ⟨(segName f).toArray⟩] W fun e w' => e = .returned (.int .i64 ((s.create (segName f)).2 : Int)) ∧ ∃ F' G', One F' G' w' p (s.create (segName f)).1 ∧ Moved F G F' G' W w' := fun W hb => (h.below hb).create (by rw [segName_len]; decide) hok hN
  have HC := Lib.hid hc
  have g1 : decide (4611686018427387904 < f) = false := by simp; omega
  clear hc h0 h1 hN h hok
  generalize segName f = nm at *
  generalize (s.create nm).2 = er at *
  unfold devD
  go_enter Try.func81, Try.ntmps81
  go_wp2_with (first | (go_at_call 99; refine hn.mono ?_; rintro _ w1 ⟨rfl, hb1⟩) | (go_at_call 11; refine (HC.out _ hb1).mono ?_; rintro _ w2 ⟨rfl, hq⟩))
  go_ret
  obtain ⟨F', G', k1, k2⟩ := hq
  exact ⟨rfl, F', G', k1, k2.after hb1⟩
set_option maxHeartbeats 2000000 in
theorem begin_any (h : One F G w p s) {f : Int} (h0 : 0 ≤ f) (h1 : f ≤ 4611686018427387904) (hok : s.Ok N) (hN : N + 1 < maxList) :
    Calls Try.prog 59 #[devD p, .int .i64 f] w fun e w' => e = .returned (.int .i64 ((s.create (segName f)).2 : Int)) ∧ ∃ F' G', One F' G' w' p (s.create (segName f)).1 ∧ Moved F G F' G' w w' := by
  have hc := stepCreate_any h h0 h1 hok hN
  clear h0 h1 hok hN h
  unfold devD at *
  go_enter Try.func59, Try.ntmps59
  go_wp2_with (go_at_call 81; refine hc.mono ?_; rintro _ w1 ⟨rfl, hq⟩)
  go_ret
  exact ⟨rfl, hq⟩
end

end Go.Proofs.Ytgfdbcpakcnkpaa
/- Segment: copied. -/
namespace Go.Proofs.Ytgfdbcpakcnkpaa
open Go.RowKit Go.Maps

set_option maxRecDepth 100000 in
set_option maxHeartbeats 8000000 in
theorem copied_any {w : World} {a : Option Addr} {c : Nat} {L : List (List UInt8)} {f g z y : Int} (h : EntsAt w a L) (hl : L.length ≤ 1000000000) (hb : ∀ e ∈ L, e.length ≤ 140737488355328) :
    Calls Try.prog 68 #[.agg #[.int .i64 f, .slice a L.length c, .int .i64 g, .int .i64 z, .int .i64 y]] w fun e w' => ∃ es, e = .returned (.agg #[.int .i64 f, es, .int .i64 g, .int .i64 z, .int .i64 y]) ∧ EntIn (fun x => w.heap.size ≤ x) w' es L ∧ Below w.heap.size w w' := by
  have hmax : maxLen = 9223372036854775807 := rfl
  obtain ⟨i0, hi, hz0, hz1, hz2⟩ := info_parts Try.info26
  obtain ⟨w1, hw1⟩ : ∃ w1, (w.alloc (.cells #[.int .i64 f, .slice a L.length c, .int .i64 g, .int .i64 z, .int .i64 y] 54)).alloc (.cells #[.int .i64 0, .slice none 0 0, .int .i64 0, .int .i64 0, .int .i64 0] 54) = w1 := ⟨_, rfl⟩
  have hb1 : Below w.heap.size w w1 := by rw [← hw1]; exact (below_alloc w _).alloc (by simp) _
  have hz1' : w1.heap.size = w.heap.size + 2 := by rw [← hw1]; simp
  have hx0 : w1.heap[w.heap.size]? = some (.cells #[.int .i64 f, .slice a L.length c, .int .i64 g, .int .i64 z, .int .i64 y] 54 (0, 0)) := by rw [← hw1]; exact (Below.heap_alloc _ _ _ (by simp)).trans (World.alloc_heap_new w _)
  have hx1 : w1.heap[w.heap.size + 1]? = some (.cells #[.int .i64 0, .slice none 0 0, .int .i64 0, .int .i64 0, .int .i64 0] 54 (0, 0)) := by rw [← hw1]; have := World.alloc_heap_new (w.alloc (.cells #[.int .i64 f, .slice a L.length c, .int .i64 g, .int .i64 z, .int .i64 y] 54)) (.cells #[.int .i64 0, .slice none 0 0, .int .i64 0, .int .i64 0, .int .i64 0] 54); rwa [World.size_alloc] at this
  have hE := h.below hb1
  have p0 := cell_of_heap hx0 (i := 0) (v := .int .i64 f) (by rfl)
  have p1 := cell_of_heap hx0 (i := 1) (v := .slice a L.length c) (by rfl)
  have p2 := cell_of_heap hx0 (i := 2) (v := .int .i64 g) (by rfl)
  have p3 := cell_of_heap hx0 (i := 3) (v := .int .i64 z) (by rfl)
  have p4 := cell_of_heap hx0 (i := 4) (v := .int .i64 y) (by rfl)
  have HW := Lib.hid hw1
  have HZ := Lib.hid hz1'
  have HX0 := Lib.hid hx0
  have HX1 := Lib.hid hx1
  have HB1 := Lib.hid hb1
  have HE := Lib.hid hE
  have HLB := Lib.hid hb
  clear hw1 hz1' hx0 hx1 hb1 hE h hb
  go_enter Try.func68, Try.ntmps68
  go_wp2_with (rw [HW.out])
  clear p0 p1 p2 p3 p4
  go_loopw [9, 3] (fun i l wr => ∃ (k : Nat) (ea : Option Addr) (ec : Nat), k ≤ L.length ∧ i = .int .i64 k ∧ l = .slice ea k ec ∧ EntIn (fun x => w1.heap.size ≤ x) wr (.slice ea k ec) (L.take k) ∧ Below w1.heap.size w1 wr) (fun i _ _ => L.length - (RowKit.intOf i).toNat)
  case atStart => exact ⟨0, none, 0, by omega, rfl, rfl, by rw [List.take_zero]; exact EntIn.nil _ _, Below.refl _ _⟩
  case round =>
    obtain ⟨k, ea, ec, hk, rfl, rfl, hent, hbw⟩ := hrel
    by_cases hlt : k < L.length
    · obtain ⟨x, hx⟩ : ∃ x, L[k]? = some x := ⟨L[k]'hlt, by simp⟩
      obtain ⟨b1, o1, rfl, c1⟩ := (HE.out.below hbw) (fun e => by rw [e] at hlt; simp at hlt)
      obtain ⟨ua, uc, u1, r1, _, un⟩ := c1 k x hx
      have hxm : x ∈ L := List.mem_of_getElem? hx
      have hcl := bclone_any (c := uc) r1 un (HLB.out x hxm)
      have hts : L.take (k + 1) = L.take k ++ [x] := by rw [List.take_add_one, hx]; rfl
      have hkl : (L.take k).length = k := by simp; omega
      have j0 : (k : Int) < (L.length : Int) := by omega
      have HT := Lib.hid hts
      have HEN := Lib.hid hent
      have HBW := Lib.hid hbw
      have HKL := Lib.hid hkl
      have hka : k ≤ 1000000000 := by omega
      clear c1 hx hxm r1 un hts hent hbw hkl
      go_wp2_with (first
        | (go_at_call 70; refine hcl.mono ?_; rintro _ w4 ⟨U, rfl, hV, hb4⟩; obtain ⟨ta, tc, rfl, _⟩ := hV.row; obtain ⟨vs, s1, s2, s3, s4⟩ := HEN.out.below hb4; rw [HKL.out] at s1)
        | (at_builtin; refine wpList_append_own_at _ rfl (.tmp 13) (.tmp 16) 52 rfl 0 26 i0 (.slice none 0 0) 1 24 Try.underlying52 hi hz0 hz1 hz2 rfl (by decide) _ _ _ rfl (s1.alloc _) ⟨w4.heap.size, 0, none⟩ 1 1 [.slice ta x.length tc] rfl rfl (cell_one_new _ _ _) (by simp [Value.oneCell']) (by omega) (by omega) (Nat.zero_le _) ?_; intro v5 w5 r5 hg5 _ hat5; obtain ⟨ya, yc, rfl, _, _⟩ := RowAt.of_owns r5; have hgr : Grew (.slice ea k ec) (w4.alloc (.cells #[.slice ta x.length tc] 26)) (.slice ya (k + 1) yc) w5 := Grew.append hg5 hat5; have hgc : Chg (fun x => (Value.slice ea k ec).ownBlock = some x) w4 w5 := (Chg.alloc _ w4 _).trans hgr.1 (fun _ h _ => h)))
      go_roundw
      case rel =>
        have z1 := HBW.out.size
        have z4 := hb4.size
        refine ⟨k + 1, ya, yc, by omega, by go_num, rfl, ?_, ?_⟩
        · rw [HT.out]
          have hp := EntIn.push (R := fun x => w1.heap.size ≤ x) (L := L.take k) (by rw [HKL.out]; exact s1) s2 s3 s4 (hV.kept (R' := fun x => w1.heap.size ≤ x) (Chg.refl (fun _ => False) _) (fun _ _ h => h) (fun x hx => by omega)) (Chg.alloc _ w4 _) (v' := .slice ya (k + 1) yc) (w2 := w5) (by rw [HKL.out]; exact r5) hgr
            (fun b' cs fr hb' hcs => by
              obtain ⟨cs2, fr2, h2⟩ := ownsRow_ty (s1.alloc (.cells #[.slice ta x.length tc] 26)) hb'
              rw [h2] at hcs
              simp only [Option.some.injEq, Obj.cells.injEq] at hcs
              exact absurd hcs.2.1 (by decide))
            (fun x hx => by simp at hx; omega)
          exact hp
        · exact HBW.out.trans ((hb4.mono z1).trans (hgc.belowLo6 (by omega) (fun x hx => by have := s2 x hx; omega)))
      case measure => simp [RowKit.intOf]; omega
    · obtain rfl : k = L.length := by omega
      rw [List.take_length] at hent
      have hX0 := (hbw.block _ (heap_lt HX0.out)).trans HX0.out
      have hX1 := (hbw.block _ (heap_lt HX1.out)).trans HX1.out
      have p0 := cell_of_heap hX0 (i := 0) (v := .int .i64 f) (by rfl)
      have p1 := cell_of_heap hX0 (i := 1) (v := .slice a L.length c) (by rfl)
      have p2 := cell_of_heap hX0 (i := 2) (v := .int .i64 g) (by rfl)
      have p3 := cell_of_heap hX0 (i := 3) (v := .int .i64 z) (by rfl)
      have p4 := cell_of_heap hX0 (i := 4) (v := .int .i64 y) (by rfl)
      have pz1 := frozen_of_heap (i := 1) hX0
      have HEN := Lib.hid hent
      have HBW := Lib.hid hbw
      have q1 := heap_set_cells (i := 1) (.slice ea L.length ec) hX0
      have q1 : (wr.setCell ⟨w.heap.size, 1, none⟩ (.slice ea L.length ec)).heap[w.heap.size]? = some (.cells #[.int .i64 f, .slice ea L.length ec, .int .i64 g, .int .i64 z, .int .i64 y] 54 (0, 0)) := q1
      have s1 : Chg (· = w.heap.size) wr (wr.setCell ⟨w.heap.size, 1, none⟩ (.slice ea L.length ec)) := Chg.set _ rfl
      obtain ⟨X, hX⟩ : ∃ X, wr.setCell ⟨w.heap.size, 1, none⟩ (.slice ea L.length ec) = X := ⟨_, rfl⟩
      have hY1 := s1.obj hX1 (by omega)
      rw [hX] at q1 s1 hY1
      have HK := Lib.hid hY1
      have HS1 := Lib.hid s1
      clear hent hbw hlt
      go_upto_region 8 with fail
      clear hX
      have t0 := cell_of_heap q1 (i := 0) (v := .int .i64 f) (by rfl)
      have t1 := cell_of_heap q1 (i := 1) (v := .slice ea L.length ec) (by rfl)
      have t2 := cell_of_heap q1 (i := 2) (v := .int .i64 g) (by rfl)
      have t3 := cell_of_heap q1 (i := 3) (v := .int .i64 z) (by rfl)
      have t4 := cell_of_heap q1 (i := 4) (v := .int .i64 y) (by rfl)
      have r0 := cell_of_heap HK.out (i := 0) (v := .int .i64 0) (by rfl)
      have r1 := cell_of_heap HK.out (i := 1) (v := .slice none 0 0) (by rfl)
      have r2 := cell_of_heap HK.out (i := 2) (v := .int .i64 0) (by rfl)
      have r3 := cell_of_heap HK.out (i := 3) (v := .int .i64 0) (by rfl)
      have r4 := cell_of_heap HK.out (i := 4) (v := .int .i64 0) (by rfl)
      have rz0 := frozen_of_heap (i := 0) HK.out
      have rz1 := frozen_of_heap (i := 1) HK.out
      have rz2 := frozen_of_heap (i := 2) HK.out
      have rz3 := frozen_of_heap (i := 3) HK.out
      have rz4 := frozen_of_heap (i := 4) HK.out
      clear p0 p1 p2 p3 p4 pz1
      go_wp2
      obtain ⟨Y, hY, hyx, hcY⟩ := set5 (x := .int .i64 f) (y := .slice ea L.length ec) (z := .int .i64 g) (u := .int .i64 z) (v := .int .i64 y) HK.out
      rw [hY]
      have y0 := cell_of_heap hyx (i := 0) (v := .int .i64 f) (by rfl)
      have y1 := cell_of_heap hyx (i := 1) (v := .slice ea L.length ec) (by rfl)
      have y2 := cell_of_heap hyx (i := 2) (v := .int .i64 g) (by rfl)
      have y3 := cell_of_heap hyx (i := 3) (v := .int .i64 z) (by rfl)
      have y4 := cell_of_heap hyx (i := 4) (v := .int .i64 y) (by rfl)
      refine bodyPost_ret (v := .agg #[.int .i64 f, .slice ea L.length ec, .int .i64 g, .int .i64 z, .int .i64 y]) (by simp [results, Try.results68, go_sem, y0, y1, y2, y3, y4]) rfl ?_
      have hzz := HZ.out
      have hbr : Below w.heap.size w wr := HB1.out.trans (HBW.out.mono HB1.out.size)
      exact ⟨_, rfl, (HEN.out.kept (R' := fun x => w1.heap.size ≤ x) HS1.out (fun b hb e => by omega) (fun _ h => h)).kept hcY (fun b hb e => by omega) (fun b hb => by omega), Chg.ret (Chg.ret hbr (Nat.le_refl _) HS1.out) (Nat.le_succ _) hcY⟩

end Go.Proofs.Ytgfdbcpakcnkpaa
/- Segment: the law's great. -/
namespace Go.Proofs.Ytgfdbcpakcnkpaa
open Go.RowKit Go.Maps

/-- how many bytes entries have -/
def bytesL (L : List (List UInt8)) : Nat := (L.map List.length).foldl (· + ·) 0
theorem bytesL_snoc (L : List (List UInt8)) (e : List UInt8) : bytesL (L ++ [e]) = bytesL L + e.length := by simp [bytesL]
theorem bytesL_take (L : List (List UInt8)) (k : Nat) : bytesL (L.take k) ≤ bytesL L := by
  have h : ∀ (l : List Nat) (n : Nat), n ≤ l.foldl (· + ·) n := by
    intro l
    induction l with
    | nil => intro n; exact Nat.le_refl _
    | cons x r ih => intro n; exact Nat.le_trans (Nat.le_add_right n x) (ih (n + x))
  have e : bytesL L = ((L.drop k).map List.length).foldl (· + ·) (bytesL (L.take k)) := by
    unfold bytesL
    rw [← List.foldl_append, ← List.map_append, List.take_append_drop]
  rw [e]
  exact h _ _
/-- too many entries, or bytes -/
def greatL (L : List (List UInt8)) : Bool := decide (5000 < L.length) || decide (300000 < bytesL L)
set_option maxRecDepth 100000 in
set_option maxHeartbeats 4000000 in
theorem great17_any {w : World} {a : Option Addr} {c : Nat} {L : List (List UInt8)} (h : EntsAt w a L) (hl : L.length ≤ maxLen) (hb : ∀ e ∈ L, e.length ≤ 140737488355328) :
    Calls Try.prog 26 #[.slice a L.length c] w fun e w' => e = .returned (.bool (greatL L)) ∧ Below w.heap.size w w' := by
  have hmax : maxLen = 9223372036854775807 := rfl
  have HLB := Lib.hid hb
  have HE := Lib.hid h
  clear hb h
  go_enter Try.func26, Try.ntmps26
  go_wp2
  go_loopw [3, 4] (fun n i wr => ∃ k m : Nat, k ≤ L.length ∧ k ≤ 5001 ∧ i = .int .i64 k ∧ n = .int .i64 m ∧ m = bytesL (L.take k) ∧ w = wr ∧ m ≤ 140737488655328) (fun _ i _ => L.length - (RowKit.intOf i).toNat)
  case atStart => exact ⟨0, 0, by omega, by omega, rfl, rfl, rfl, rfl, by omega⟩
  case round =>
    obtain ⟨k, m, hk, hk5, rfl, rfl, hm, rfl, hmb⟩ := hrel
    have hmt := bytesL_take L k
    rw [← hm] at hmt
    have HM := Lib.hid hm
    clear hm
    by_cases h1 : k < L.length
    · have j0 : (k : Int) < (L.length : Int) := by omega
      by_cases h2 : k ≤ 5000
      · have g2 : decide ((k : Int) ≤ 5000) = true := by simp; omega
        by_cases h3 : m ≤ 300000
        · have g3 : decide ((m : Int) ≤ 300000) = true := by simp; omega
          obtain ⟨x, hx⟩ : ∃ x, L[k]? = some x := ⟨L[k]'h1, by simp⟩
          obtain ⟨b1, o1, rfl, c1⟩ := HE.out (fun e => by rw [e] at h1; simp at h1)
          obtain ⟨ua, uc, u1, _⟩ := c1 k x hx
          have hxb := HLB.out x (List.mem_of_getElem? hx)
          have hts : L.take (k + 1) = L.take k ++ [x] := by rw [List.take_add_one, hx]; rfl
          have HT := Lib.hid hts
          clear c1 hx hts
          go_wp2
          go_roundw
          case rel => exact ⟨k + 1, m + x.length, by omega, by omega, by go_num, by go_num, by rw [HT.out, bytesL_snoc, ← HM.out], by trivial, by omega⟩
          case measure => simp [RowKit.intOf]; omega
        · have g3 : decide ((m : Int) ≤ 300000) = false := by simp; omega
          have g4 : decide ((300000 : Int) < (m : Int)) = true := by simp; omega
          have hE : greatL L = true := by unfold greatL; rw [show decide (300000 < bytesL L) = true from by simp; omega, Bool.or_true]
          by_cases h5 : 5000 < L.length
          · have g5 : decide ((5000 : Int) < (L.length : Int)) = true := by simp; omega
            have HQ := Lib.hid hE
            clear hE
            go_wp2
            go_ret
            exact ⟨by rw [HQ.out]; rfl, Below.refl _ _⟩
          · have g5 : decide ((5000 : Int) < (L.length : Int)) = false := by simp; omega
            have HQ := Lib.hid hE
            clear hE
            go_wp2
            go_ret
            exact ⟨by rw [HQ.out]; rfl, Below.refl _ _⟩
      · have g2 : decide ((k : Int) ≤ 5000) = false := by simp; omega
        have g5 : decide ((5000 : Int) < (L.length : Int)) = true := by simp; omega
        have hE : greatL L = true := by unfold greatL; rw [show decide (5000 < L.length) = true from by simp; omega, Bool.true_or]
        have HQ := Lib.hid hE
        clear hE
        go_wp2
        go_ret
        exact ⟨by rw [HQ.out]; rfl, Below.refl _ _⟩
    · obtain rfl : k = L.length := by omega
      have HM2 : Hid (m = bytesL L) := Lib.hid (by rw [HM.out, List.take_length])
      by_cases h5 : 5000 < L.length
      · have g5 : decide ((5000 : Int) < (L.length : Int)) = true := by simp; omega
        have hE : greatL L = true := by unfold greatL; rw [show decide (5000 < L.length) = true from by simp; omega, Bool.true_or]
        have HQ := Lib.hid hE
        clear hE
        go_wp2
        go_ret
        exact ⟨by rw [HQ.out]; rfl, Below.refl _ _⟩
      · have g5 : decide ((5000 : Int) < (L.length : Int)) = false := by simp; omega
        have hE : greatL L = decide ((300000 : Int) < (m : Int)) := by unfold greatL; rw [← HM2.out, show decide (5000 < L.length) = false from by simp; omega, Bool.false_or]; simp; omega
        have HQ := Lib.hid hE
        clear hE
        go_wp2
        go_ret
        exact ⟨by rw [HQ.out]; rfl, Below.refl _ _⟩

end Go.Proofs.Ytgfdbcpakcnkpaa
