/- Disk: DiskLasts: the plain theorem, the law's steps, the walk, the arguments opened. -/
import Derived.Test.YtgckcnnnblggbaaDlF
import Derived.Test.YtgckcnnnblggbaaDlM
import Derived.Test.YtgckcnnnblggbaaDkL
import Derived.Test.YtgckcnnnblggbaaDkH
import Derived.Test.YtgckcnnnblggbaaDkG
import Derived.Deep.CutRange
import Derived.Test.YtgckcnnnblggbaaDlL
import Derived.Test.YtgckcnnnblggbaaDlN
import Derived.Deep.AppendLies
import Derived.Handy
import Derived.Test.YtgckcnnnblggbaaBulk
import Derived.Deep.SlicePairs
import Derived.Deep.Grids
/- Disk: plain: what was synced lasts: the law's own theorem, no program in sight. -/
namespace Go.Proofs.Ytgckcnnnblggbaa
open Go.RowKit Go.Maps

/-! ### names behind steps -/
theorem find_del_ne {l : NL} {k t : List UInt8} (h : t ≠ k) : nlFind (nlDel l k) t = nlFind l t := by
  unfold nlFind nlDel
  induction l with
  | nil => rfl
  | cons y r ih =>
    rw [List.filter_cons]
    by_cases hy : y.1 = k
    · have h1 : (y.1 == k) = true := by simpa using hy
      have h2 : (y.1 == t) = false := by rw [hy]; simpa using fun e => h e.symm
      rw [h1]
      simp only [Bool.not_true, Bool.false_eq_true, if_false, List.find?_cons, h2]
      exact ih
    · have h1 : (y.1 == k) = false := by simpa using hy
      rw [h1]
      simp only [Bool.not_false, if_true, List.find?_cons]
      cases y.1 == t
      · exact ih
      · rfl
theorem find_ins_ne {x : List UInt8 × Nat} {t : List UInt8} (h : t ≠ x.1) : ∀ l : NL, nlFind (nlIns x l) t = nlFind l t
  | [] => by
    have h2 : (x.1 == t) = false := by simpa using fun e => h e.symm
    simp [nlIns, nlFind, h2]
  | y :: r => by
    have h2 : (x.1 == t) = false := by simpa using fun e => h e.symm
    unfold nlIns
    split
    · simp only [nlFind, List.find?_cons, h2]
    · have ih := find_ins_ne h r
      unfold nlFind at ih ⊢
      simp only [List.find?_cons]
      cases y.1 == t
      · exact ih
      · rfl
theorem find_put_ne {l : NL} {k t : List UInt8} {n : Nat} (h : t ≠ k) : nlFind (nlPut l k n) t = nlFind l t := by
  unfold nlPut
  rw [find_ins_ne h, find_del_ne h]
theorem find_ins_same {k : List UInt8} {n : Nat} : ∀ {l : NL}, (∀ p ∈ l, p.1 ≠ k) → nlFind (nlIns (k, n) l) k = some n
  | [], _ => by simp [nlIns, nlFind]
  | y :: r, h => by
    unfold nlIns
    split
    · simp [nlFind]
    · have h1 : (y.1 == k) = false := by simpa using h y List.mem_cons_self
      have ih := find_ins_same (n := n) (fun p hp => h p (List.mem_cons_of_mem _ hp))
      unfold nlFind at ih ⊢
      simp only [List.find?_cons, h1]
      exact ih
theorem find_put_same {l : NL} {k : List UInt8} {n : Nat} : nlFind (nlPut l k n) k = some n := find_ins_same (fun p hp => (mem_nlDel.1 hp).2)
theorem find_del_same {l : NL} {k : List UInt8} : nlFind (nlDel l k) k = none := by
  unfold nlFind nlDel
  rw [Option.map_eq_none_iff, List.find?_eq_none]
  intro p hp
  have := (List.mem_filter.1 hp).2
  simpa using this

/-- a step of the names that does nothing to k -/
def StepBut (k : List UInt8) : NStep → Prop
  | .create n _ => n ≠ k
  | .rename f t => f ≠ k ∧ t ≠ k
  | .remove n => n ≠ k
theorem find_step {l : NL} {k : List UInt8} {x : NStep} (h : StepBut k x) : nlFind (doStep l x) k = nlFind l k := by
  cases x with
  | create n f => exact find_put_ne (fun e => h e.symm)
  | rename f t =>
    simp only [doStep]
    split
    · rw [find_put_ne (fun e => h.2 e.symm), find_del_ne (fun e => h.1 e.symm)]
    · rfl
  | remove n => exact find_del_ne (fun e => h e.symm)
theorem find_steps {k : List UInt8} : ∀ (xs : List NStep) (l : NL), (∀ x ∈ xs, StepBut k x) → nlFind (xs.foldl doStep l) k = nlFind l k
  | [], _, _ => rfl
  | x :: r, l, h => by
    rw [List.foldl_cons, find_steps r _ (fun y hy => h y (List.mem_cons_of_mem _ hy)), find_step (h x List.mem_cons_self)]

/-! ### the law's steps -/
/-- a step that the law does, but of one name -/
structure LStep where
  kind : Int
  name : List UInt8
  dst : List UInt8
  at_ : Int
  data : List UInt8
def skips (x : LStep) (but : List UInt8) : Bool := (x.name == but && !(but == [])) || (x.dst == but && !(but == []))
noncomputable def lawStep (s : DSt) (x : LStep) (but : List UInt8) : DSt :=
  if skips x but then s
  else if x.kind = 1 then (s.create x.name).1
  else if x.kind = 2 then (s.put x.name x.at_ x.data).1
  else if x.kind = 3 then (s.cut x.name x.at_).1
  else if x.kind = 4 then (s.sync x.name).1
  else if x.kind = 5 then (s.syncNames).1
  else if x.kind = 6 then (s.rename x.name x.dst).1
  else if x.kind = 7 then (s.remove x.name).1
  else s
theorem lawStep_ok {s : DSt} {N : Nat} (h : s.Ok N) (x : LStep) (but : List UInt8) : (lawStep s x but).Ok (N + 1) := by
  unfold lawStep
  split
  · exact h.mono (by omega)
  split
  · exact h.create _
  split
  · exact h.put _ _ _
  split
  · exact h.cut _ _
  split
  · exact h.sync _
  split
  · exact h.syncNames
  split
  · exact h.rename _ _
  split
  · exact h.remove _
  · exact h.mono (by omega)

/-- what holds from the syncs on: the file f of the name k has these bytes, and they last; T: the names at all times -/
structure Kept (s : DSt) (k : List UInt8) (f : Nat) (b : List UInt8) (T : List (List (List UInt8))) : Prop where
  here : nlFind s.names k = some f
  only : ∀ p ∈ s.names, p.2 = f → p.1 = k
  sure : nlFind s.sure k = some f
  steps : ∀ x ∈ s.steps, StepBut k x
  writes : ∀ x ∈ s.writes, x.file ≠ f
  lasts : s.lasts f = b
  lt : f < s.files.length
  now : s.names = s.steps.foldl doStep s.sure
  times : ∀ i, i ≤ s.steps.length → ((s.steps.take i).foldl doStep s.sure).map (·.1) ∈ T

theorem Kept.mono {s : DSt} {k : List UInt8} {f : Nat} {b : List UInt8} {T U : List (List (List UInt8))} (h : Kept s k f b T) (hu : ∀ t ∈ T, t ∈ U) : Kept s k f b U :=
  { h with times := fun i hi => hu _ (h.times i hi) }
theorem Kept.tick {s : DSt} {k : List UInt8} {f : Nat} {b : List UInt8} {T : List (List (List UInt8))} (h : Kept s k f b T) : Kept s.tick k f b T := ⟨h.here, h.only, h.sure, h.steps, h.writes, h.lasts, h.lt, h.now, h.times⟩
theorem Kept.step {s : DSt} {k : List UInt8} {f : Nat} {b : List UInt8} {T : List (List (List UInt8))} (h : Kept s k f b T) {x : NStep} (hx : StepBut k x) (ho : ∀ p ∈ doStep s.names x, p.2 = f → p.1 = k) (hT : (doStep s.names x).map (·.1) ∈ T) : Kept (s.step x) k f b T where
  here := by show nlFind (doStep s.names x) k = some f; rw [find_step hx]; exact h.here
  only := ho
  sure := h.sure
  steps := fun y hy => by
    rcases List.mem_append.1 hy with hy | hy
    · exact h.steps y hy
    · simp at hy; subst hy; exact hx
  writes := h.writes
  lasts := h.lasts
  lt := h.lt
  now := by show doStep s.names x = (s.steps ++ [x]).foldl doStep s.sure; rw [List.foldl_append, ← h.now]; rfl
  times := fun i hi => by
    show (((s.steps ++ [x]).take i).foldl doStep s.sure).map (·.1) ∈ T
    have hi' : i ≤ s.steps.length + 1 := by have : i ≤ (s.steps ++ [x]).length := hi; simpa using this
    by_cases h1 : i ≤ s.steps.length
    · rw [List.take_append_of_le_length h1]; exact h.times i h1
    · obtain rfl : i = s.steps.length + 1 := by omega
      rw [List.take_of_length_le (by simp), List.foldl_append, ← h.now]
      exact hT
theorem only_put {l : NL} {k t : List UInt8} {f n : Nat} (h : ∀ p ∈ l, p.2 = f → p.1 = k) (hn : n ≠ f) : ∀ p ∈ nlPut l t n, p.2 = f → p.1 = k := fun p hp e => by
  rcases mem_nlPut.1 hp with rfl | ⟨hp, _⟩
  · exact absurd e hn
  · exact h p hp e
theorem only_del {l : NL} {k t : List UInt8} {f : Nat} (h : ∀ p ∈ l, p.2 = f → p.1 = k) : ∀ p ∈ nlDel l t, p.2 = f → p.1 = k := fun p hp e => h p (mem_nlDel.1 hp).1 e
theorem getD_set_ne {α : Type} {l : List α} {i j : Nat} {x d : α} (h : i ≠ j) : (l.set i x).getD j d = l.getD j d := by
  rw [List.getD_eq_getElem?_getD, List.getD_eq_getElem?_getD, List.getElem?_set_ne h]
theorem getD_append_lt {α : Type} {l m : List α} {j : Nat} {d : α} (h : j < l.length) : (l ++ m).getD j d = l.getD j d := by
  rw [List.getD_eq_getElem?_getD, List.getD_eq_getElem?_getD, List.getElem?_append_left h]
theorem Kept.file_ne {s : DSt} {k : List UInt8} {f : Nat} {b : List UInt8} {T : List (List (List UInt8))} (h : Kept s k f b T) {t : List UInt8} {n : Nat} (ht : t ≠ k) (hn : nlFind s.names t = some n) : n ≠ f := fun e => ht (h.only _ (find_mem hn) e)

theorem Kept.create {s : DSt} {k : List UInt8} {f : Nat} {b : List UInt8} {T : List (List (List UInt8))} (h : Kept s k f b T) {t : List UInt8} (ht : t ≠ k) (hT : ((s.create t).1.names).map (·.1) ∈ T) : Kept (s.create t).1 k f b T := by
  revert hT
  unfold DSt.create
  split
  · exact fun _ => h.tick
  · split
    · exact fun _ => h.tick
    · intro hT
      have hlt := h.lt
      have h2 : Kept ({ s with files := s.files ++ [([], [])] } : DSt) k f b T := ⟨h.here, h.only, h.sure, h.steps, h.writes, by show ((s.files ++ [([], [])]).getD f ([], [])).2 = b; rw [getD_append_lt hlt]; exact h.lasts, by show f < (s.files ++ [([], [])]).length; simp; omega, h.now, h.times⟩
      exact h2.step (x := .create t s.files.length) (show t ≠ k from ht) (only_put h.only (by omega)) hT
theorem Kept.write {s : DSt} {k : List UInt8} {f : Nat} {b : List UInt8} {T : List (List (List UInt8))} (h : Kept s k f b T) {x : Wr} (hx : x.file ≠ f) : Kept (s.write x) k f b T where
  here := h.here
  only := h.only
  sure := h.sure
  steps := h.steps
  writes := fun y hy => by
    rcases List.mem_append.1 hy with hy | hy
    · exact h.writes y hy
    · simp at hy; subst hy; exact hx
  lasts := by show ((s.files.set x.file _).getD f ([], [])).2 = b; rw [getD_set_ne hx]; exact h.lasts
  lt := by show f < (s.files.set _ _).length; rw [List.length_set]; exact h.lt
  now := h.now
  times := h.times
theorem Kept.put {s : DSt} {k : List UInt8} {f : Nat} {b : List UInt8} {T : List (List (List UInt8))} (h : Kept s k f b T) {t : List UInt8} (ht : t ≠ k) (at_ : Int) (d : List UInt8) : Kept (s.put t at_ d).1 k f b T := by
  unfold DSt.put
  cases hf : nlFind s.names t with
  | none => exact h.tick
  | some n =>
    simp only []
    split
    · exact h.tick
    · split
      · exact h.tick
      · exact h.write (h.file_ne ht hf)
theorem Kept.cut {s : DSt} {k : List UInt8} {f : Nat} {b : List UInt8} {T : List (List (List UInt8))} (h : Kept s k f b T) {t : List UInt8} (ht : t ≠ k) (n : Int) : Kept (s.cut t n).1 k f b T := by
  unfold DSt.cut
  cases hf : nlFind s.names t with
  | none => exact h.tick
  | some n =>
    simp only []
    split
    · exact h.tick
    · exact h.write (h.file_ne ht hf)
theorem Kept.sync {s : DSt} {k : List UInt8} {f : Nat} {b : List UInt8} {T : List (List (List UInt8))} (h : Kept s k f b T) {t : List UInt8} (ht : t ≠ k) : Kept (s.sync t).1 k f b T := by
  unfold DSt.sync
  cases hf : nlFind s.names t with
  | none => exact h.tick
  | some n =>
    have hn := h.file_ne ht hf
    exact {
      here := h.here
      only := h.only
      sure := h.sure
      steps := h.steps
      writes := fun y hy => h.writes y (List.mem_filter.1 hy).1
      lasts := by show ((s.files.set n _).getD f ([], [])).2 = b; rw [getD_set_ne hn]; exact h.lasts
      lt := by show f < (s.files.set _ _).length; rw [List.length_set]; exact h.lt
      now := h.now
      times := h.times }
theorem Kept.syncNames {s : DSt} {k : List UInt8} {f : Nat} {b : List UInt8} {T : List (List (List UInt8))} (h : Kept s k f b T) (hT : s.names.map (·.1) ∈ T) : Kept (s.syncNames).1 k f b T where
  here := h.here
  only := h.only
  sure := h.here
  steps := fun x hx => by cases hx
  writes := h.writes
  lasts := h.lasts
  lt := h.lt
  now := rfl
  times := fun i hi => by
    obtain rfl : i = 0 := by have : i ≤ ([] : List NStep).length := hi; simpa using this
    exact hT
theorem Kept.rename {s : DSt} {k : List UInt8} {f : Nat} {b : List UInt8} {T : List (List (List UInt8))} (h : Kept s k f b T) {t u : List UInt8} (ht : t ≠ k) (hu : u ≠ k) (hT : ((s.rename t u).1.names).map (·.1) ∈ T) : Kept (s.rename t u).1 k f b T := by
  revert hT
  unfold DSt.rename
  split
  · exact fun _ => h.tick
  · cases hf : nlFind s.names t with
    | none => exact fun _ => h.tick
    | some n =>
      intro hT
      refine h.step (x := .rename t u) ⟨ht, hu⟩ ?_ hT
      simp only [doStep, hf]
      exact only_put (only_del h.only) (h.file_ne ht hf)
theorem Kept.remove {s : DSt} {k : List UInt8} {f : Nat} {b : List UInt8} {T : List (List (List UInt8))} (h : Kept s k f b T) {t : List UInt8} (ht : t ≠ k) (hT : ((s.remove t).1.names).map (·.1) ∈ T) : Kept (s.remove t).1 k f b T := by
  revert hT
  unfold DSt.remove
  cases hf : nlFind s.names t with
  | none => exact fun _ => h.tick
  | some n => exact fun hT => h.step (x := .remove t) (show t ≠ k from ht) (only_del h.only) hT
theorem Kept.law {s : DSt} {k : List UInt8} {f : Nat} {b : List UInt8} {T : List (List (List UInt8))} (h : Kept s k f b T) (hk : k ≠ []) (x : LStep) (hn : s.names.map (·.1) ∈ T) : Kept (lawStep s x k) k f b (T ++ [(lawStep s x k).names.map (·.1)]) := by
  have h' : Kept s k f b (T ++ [(lawStep s x k).names.map (·.1)]) := h.mono (fun t ht => List.mem_append_left _ ht)
  have hl : (lawStep s x k).names.map (·.1) ∈ T ++ [(lawStep s x k).names.map (·.1)] := by simp
  have hn' : s.names.map (·.1) ∈ T ++ [(lawStep s x k).names.map (·.1)] := List.mem_append_left _ hn
  generalize hU : T ++ [(lawStep s x k).names.map (·.1)] = U at *
  clear hU h
  revert hl
  unfold lawStep
  cases hs : skips x k with
  | true => exact fun _ => h'
  | false =>
    have hne : x.name ≠ k ∧ x.dst ≠ k := by
      unfold skips at hs
      have hk' : (k == []) = false := by simpa using hk
      rw [hk'] at hs
      simp at hs
      exact hs
    simp only [Bool.false_eq_true, if_false]
    split
    · exact fun hl => h'.create hne.1 hl
    split
    · exact fun _ => h'.put hne.1 _ _
    split
    · exact fun _ => h'.cut hne.1 _
    split
    · exact fun _ => h'.sync hne.1
    split
    · exact fun _ => h'.syncNames hn'
    split
    · exact fun hl => h'.rename hne.1 hne.2 hl
    split
    · exact fun hl => h'.remove hne.1 hl
    · exact fun _ => h'

/-! ### behind a stop -/
theorem stopFile_none {s : DSt} {f : Nat} (h : ∀ x ∈ s.writes, x.file ≠ f) (keep : List Bool) (last : Option Nat) (torn : Int) : ∀ n, stopFile s keep last torn f n = s.lasts f
  | 0 => rfl
  | n + 1 => by
    unfold stopFile
    simp only []
    rw [stopFile_none h keep last torn n]
    split
    · rename_i x hx
      have hne : (x.file == f) = false := by simpa using h x (List.mem_of_getElem? hx)
      rw [hne, Bool.and_false]
      rfl
    · rfl
theorem find_zip {α : Type} : ∀ (l : List (List UInt8 × α)) (o : Nat) (k : List UInt8), nlFind ((l.zipIdx o).map fun p => (p.1.1, p.2)) k = (l.findIdx? fun p => p.1 == k).map (· + o)
  | [], _, _ => rfl
  | x :: r, o, k => by
    rw [List.zipIdx_cons, List.map_cons]
    unfold nlFind
    rw [List.find?_cons, List.findIdx?_cons]
    cases hx : x.1 == k
    · have ih := find_zip r (o + 1) k
      unfold nlFind at ih
      simp only [hx, Bool.false_eq_true, if_false]
      rw [ih]
      cases (List.findIdx? (fun p => p.1 == k) r) with
      | none => rfl
      | some i => simp; omega
    · simp [hx]
theorem ofFiles_read {room : Nat} {l : List (List UInt8 × List UInt8)} {k b : List UInt8} (h : l.find? (fun p => p.1 == k) = some (k, b)) {n : Int} (hn : (b.length : Int) ≤ n) : (DSt.ofFiles room l).read k 0 n = (b, 0) := by
  obtain ⟨i, hi⟩ : ∃ i, l.findIdx? (fun p => p.1 == k) = some i := by
    cases hh : l.findIdx? (fun p => p.1 == k) with
    | some i => exact ⟨i, rfl⟩
    | none =>
      rw [List.findIdx?_eq_none_iff] at hh
      have h1 := hh (k, b) (List.mem_of_find?_eq_some h)
      simp at h1
  have hat : l[i]? = some (k, b) := by
    have h1 := List.find?_eq_some_iff_getElem.1 h
    obtain ⟨_, j, hj, hjx, hlt⟩ := h1
    have h2 := List.findIdx?_eq_some_iff_getElem.1 hi
    obtain ⟨hil, hip, hbefore⟩ := h2
    have hij : i = j := by
      rcases Nat.lt_trichotomy i j with h3 | h3 | h3
      · have := hlt i h3; rw [hip] at this; simp at this
      · exact h3
      · have := hbefore j h3; rw [hjx] at this; simp at this
    subst hij
    rw [List.getElem?_eq_getElem hj, hjx]
  have hf : nlFind (DSt.ofFiles room l).names k = some i := by
    show nlFind (l.zipIdx.map fun p => (p.1.1, p.2)) k = some i
    rw [find_zip l 0 k, hi]; rfl
  have hst : (DSt.ofFiles room l).stands i = b := by
    show ((l.map fun p => (p.2, p.2)).getD i ([], [])).1 = b
    rw [List.getD_eq_getElem?_getD, List.getElem?_map, hat]; rfl
  unfold DSt.read
  rw [hf]
  simp only []
  rw [hst, if_neg (by omega), if_neg (by omega)]
  simp only [Int.toNat_zero, List.drop_zero]
  rw [List.take_of_length_le (by omega)]
theorem Kept.stop {s : DSt} {k : List UInt8} {f : Nat} {b : List UInt8} {T : List (List (List UInt8))} (h : Kept s k f b T) (names : Int) (keep : List Bool) (torn : Int) {n : Int} (hn : (b.length : Int) ≤ n) :
    (s.stop names keep torn).read k 0 n = (b, 0) ∧ (s.stop names keep torn).names.map (·.1) ∈ T := by
  have hfind : nlFind (stopNames s names) k = some f := by
    unfold stopNames
    rw [find_steps _ _ (fun x hx => h.steps x (List.mem_of_mem_take hx))]
    exact h.sure
  constructor
  · unfold DSt.stop
    simp only []
    refine ofFiles_read ?_ hn
    rw [List.find?_map]
    unfold nlFind at hfind
    obtain ⟨p, hp, hpf⟩ := Option.map_eq_some_iff.1 hfind
    have hpk : p.1 = k := by have := List.find?_some hp; simpa using this
    have hcomp : ((fun p : List UInt8 × List UInt8 => p.1 == k) ∘ fun p : List UInt8 × Nat => (p.1, stopFile s keep (lastKept s (stopNames s names) keep s.writes.length) torn p.2 s.writes.length)) = fun p : List UInt8 × Nat => p.1 == k := rfl
    rw [hcomp, hp]
    simp only [Option.map_some]
    rw [stopFile_none (fun x hx => by rw [hpf]; exact h.writes x hx), hpf, h.lasts, hpk]
  · have ht := h.times (min names.toNat s.steps.length) (Nat.min_le_right _ _)
    have e : (s.stop names keep torn).names.map (·.1) = (stopNames s names).map (·.1) := by
      unfold DSt.stop
      simp only []
      show ((((stopNames s names).map _).zipIdx).map fun p : (List UInt8 × List UInt8) × Nat => (p.1.1, p.2)).map (·.1) = _
      rw [List.map_map]
      have : ((·.1) ∘ fun p : (List UInt8 × List UInt8) × Nat => (p.1.1, p.2)) = fun p : (List UInt8 × List UInt8) × Nat => p.1.1 := rfl
      rw [this]
      apply List.ext_getElem
      · simp
      · intro i h1 h2; simp
    rw [e]
    unfold stopNames
    rw [← List.take_take, List.take_length] at ht
    exact ht

end Go.Proofs.Ytgckcnnnblggbaa
/- Disk: plain: how a kept file begins; how long files may grow. No program in sight. -/
namespace Go.Proofs.Ytgckcnnnblggbaa
open Go.RowKit Go.Maps

/-- no file is longer than M -/
def Len (s : DSt) (M : Nat) : Prop := ∀ n, (s.stands n).length ≤ M
theorem Len.mono {s : DSt} {M K : Nat} (h : Len s M) (hk : M ≤ K) : Len s K := fun n => Nat.le_trans (h n) hk
theorem laid_grow (b : List UInt8) (x : Wr) {n : Nat} (hx : x.place ≤ b.length) (hn : n ≤ x.data.length) : (laid b x n).length ≤ b.length + x.data.length := by
  unfold laid
  split
  · simp; omega
  · split
    · omega
    · simp; omega
theorem stands_set {s : DSt} {f : Nat} {d : List UInt8 × List UInt8} (n : Nat) : ((s.files.set f d).getD n ([], [])).1 = s.stands n ∨ ((s.files.set f d).getD n ([], [])).1 = d.1 := by
  unfold DSt.stands
  rw [List.getD_eq_getElem?_getD, List.getD_eq_getElem?_getD]
  by_cases h : f = n
  · subst h
    by_cases hl : f < s.files.length
    · right; rw [List.getElem?_set_self hl]; rfl
    · left; rw [List.getElem?_eq_none (by simp; omega), List.getElem?_eq_none (by omega)]
  · left; rw [List.getElem?_set_ne h]
theorem Len.write {s : DSt} {M : Nat} (h : Len s M) {x : Wr} (hx : x.place ≤ (s.stands x.file).length) : Len (s.write x) (M + x.data.length) := fun n => by
  rcases stands_set (s := s) (f := x.file) (d := (laid (s.stands x.file) x x.data.length, s.lasts x.file)) n with e | e
  · have := h n
    show (((s.files.set x.file (laid (s.stands x.file) x x.data.length, s.lasts x.file)).getD n ([], [])).1).length ≤ _
    rw [e]; omega
  · have h1 := laid_grow (s.stands x.file) x hx (Nat.le_refl _)
    have h2 := h x.file
    show (((s.files.set x.file (laid (s.stands x.file) x x.data.length, s.lasts x.file)).getD n ([], [])).1).length ≤ _
    rw [e]; simp only; omega
theorem Len.addFile {s : DSt} {M : Nat} (h : Len s M) : Len ({ s with files := s.files ++ [([], [])] } : DSt) M := fun n => by
  show (((s.files ++ [([], [])]).getD n ([], [])).1).length ≤ M
  rw [List.getD_eq_getElem?_getD]
  by_cases hn : n < s.files.length
  · rw [List.getElem?_append_left hn, ← List.getD_eq_getElem?_getD]; exact h n
  · rw [List.getElem?_append_right (by omega)]
    cases hh : ([(([] : List UInt8), ([] : List UInt8))])[n - s.files.length]? with
    | none => simp
    | some d =>
      have := List.mem_of_getElem? hh
      simp at this
      subst this
      simp
theorem Len.law {s : DSt} {M : Nat} (h : Len s M) (x : LStep) (but : List UInt8) : Len (lawStep s x but) (M + x.data.length) := by
  have h0 : Len s (M + x.data.length) := h.mono (by omega)
  unfold lawStep
  split
  · exact h0
  split
  · unfold DSt.create
    split
    · exact h0
    · split
      · exact h0
      · exact h0.addFile
  split
  · unfold DSt.put
    split
    · exact h0
    · rename_i f hf
      try simp only []
      split
      · exact h0
      · split
        · exact h0
        · exact h.write (x := ⟨f, false, x.at_.toNat, x.data⟩) (by simp only; omega)
  split
  · unfold DSt.cut
    split
    · exact h0
    · rename_i f hf
      try simp only []
      split
      · exact h0
      · exact (h.write (x := ⟨f, true, x.at_.toNat, []⟩) (by simp only; omega)).mono (by simp)
  split
  · unfold DSt.sync
    split
    · exact h0
    · rename_i f hf
      intro n
      rcases stands_set (s := s) (f := f) (d := (s.stands f, s.stands f)) n with e | e
      · show (((s.files.set f (s.stands f, s.stands f)).getD n ([], [])).1).length ≤ _
        rw [e]; exact h0 n
      · show (((s.files.set f (s.stands f, s.stands f)).getD n ([], [])).1).length ≤ _
        rw [e]; exact h0 f
  split
  · exact h0
  split
  · unfold DSt.rename
    split
    · exact h0
    · split
      · exact h0
      · exact h0
  split
  · unfold DSt.remove
    split
    · exact h0
    · exact h0
  · exact h0
theorem used_le {s : DSt} {M : Nat} (h : Len s M) : s.used ≤ s.names.length * M := by
  unfold DSt.used usedOf
  induction s.names with
  | nil => simp
  | cons p r ih =>
    rw [List.map_cons, List.sum_cons, List.length_cons, Nat.add_mul, Nat.one_mul]
    have := h p.2
    omega

/-- THE FILE IS MADE, WRITTEN, SYNCED, AND ITS NAME: it is kept -/
theorem kept_start {s : DSt} {N M : Nat} (hok : s.Ok N) {k : List UInt8} (hk : NameOk k) {b : List UInt8} (hM : Len s M) (hroom : (N + 2) * M + b.length ≤ s.room) :
    ∃ s1 s2 s3 s4 s5 r1 f, s.remove k = (s1, r1) ∧ s1.create k = (s2, 0) ∧ s2.put k 0 b = (s3, 0) ∧ s3.sync k = (s4, 0) ∧ s4.syncNames = (s5, 0) ∧ Kept s5 k f b [s5.names.map (·.1)] := by
  obtain ⟨s1, r1, hs1⟩ : ∃ s1 r1, s.remove k = (s1, r1) := ⟨_, _, rfl⟩
  have h1 : nlFind s1.names k = none ∧ s1.files = s.files ∧ s1.room = s.room ∧ s1.names.length ≤ s.names.length ∧ (∀ p ∈ s1.names, p ∈ s.names) := by
    unfold DSt.remove at hs1
    cases hf : nlFind s.names k with
    | none =>
      rw [hf] at hs1
      simp only [Prod.mk.injEq] at hs1
      obtain ⟨rfl, _⟩ := hs1
      exact ⟨hf, rfl, rfl, Nat.le_refl _, fun p hp => hp⟩
    | some n =>
      rw [hf] at hs1
      simp only [Prod.mk.injEq] at hs1
      obtain ⟨rfl, _⟩ := hs1
      exact ⟨find_del_same, rfl, rfl, nlDel_le _ _, fun p hp => (mem_nlDel.1 hp).1⟩
  obtain ⟨hnone, hfiles, hroom1, hlen, hsub⟩ := h1
  obtain ⟨s2, hs2⟩ : ∃ s2, s2 = (({ s1 with files := s1.files ++ [([], [])] } : DSt).step (.create k s1.files.length)) := ⟨_, rfl⟩
  have hc : s1.create k = (s2, 0) := by
    unfold DSt.create
    rw [nameOk_iff.2 hk, hnone, hs2]
    rfl
  have hf2 : nlFind s2.names k = some s1.files.length := by rw [hs2]; exact find_put_same
  have hst2 : s2.stands s1.files.length = [] := by
    rw [hs2]
    show ((s1.files ++ [([], [])]).getD s1.files.length ([], [])).1 = []
    rw [List.getD_eq_getElem?_getD, List.getElem?_append_right (Nat.le_refl _)]
    simp
  have hM1 : Len s1 M := fun n => by have := hM n; unfold DSt.stands at this ⊢; rw [hfiles]; exact this
  have hM2 : Len s2 M := by rw [hs2]; exact hM1.addFile
  have hlen2 : s2.names.length ≤ N + 1 := by
    have h3 := nlPut_le s1.names k s1.files.length
    have h4 := hok.manyNames
    rw [hs2]
    show (nlPut s1.names k s1.files.length).length ≤ _
    omega
  have hu2 := used_le hM2
  have hr2 : s2.room = s.room := by rw [hs2]; exact hroom1
  obtain ⟨s3, hs3⟩ : ∃ s3, s3 = s2.write ⟨s1.files.length, false, 0, b⟩ := ⟨_, rfl⟩
  have hp : s2.put k 0 b = (s3, 0) := by
    unfold DSt.put
    rw [hf2]
    simp only []
    rw [hst2, hs3]
    have hmul : s2.names.length * M ≤ (N + 2) * M := Nat.mul_le_mul_right _ (by omega)
    rw [if_neg (by simp), if_neg (by rw [hr2]; simp only [List.length_nil, Int.toNat_zero]; omega)]
    rfl
  have hf3 : nlFind s3.names k = some s1.files.length := by rw [hs3]; exact hf2
  have hl3 : s1.files.length < s2.files.length := by
    rw [hs2]
    show s1.files.length < (s1.files ++ [([], [])]).length
    simp
  have hst3 : s3.stands s1.files.length = b := by
    rw [hs3]
    show ((s2.files.set s1.files.length (laid (s2.stands s1.files.length) ⟨s1.files.length, false, 0, b⟩ b.length, s2.lasts s1.files.length)).getD s1.files.length ([], [])).1 = b
    rw [List.getD_eq_getElem?_getD, List.getElem?_set_self hl3, hst2]
    simp only [Option.getD_some]
    unfold laid
    cases b with
    | nil => rfl
    | cons c r => simp
  obtain ⟨s4, hs4⟩ : ∃ s4, s4 = ({ s3 with files := s3.files.set s1.files.length (s3.stands s1.files.length, s3.stands s1.files.length), writes := s3.writes.filter (fun x => !(x.file == s1.files.length)), done := s3.done + 1 } : DSt) := ⟨_, rfl⟩
  have hy : s3.sync k = (s4, 0) := by
    unfold DSt.sync
    rw [hf3, hs4]
  have hl3' : s1.files.length < s3.files.length := by
    rw [hs3]
    show s1.files.length < (s2.files.set _ _).length
    rw [List.length_set]; exact hl3
  refine ⟨s1, s2, s3, s4, (s4.syncNames).1, r1, s1.files.length, hs1, hc, hp, hy, rfl, ?_⟩
  have hn4 : s4.names = nlPut s1.names k s1.files.length := by rw [hs4, hs3, hs2]; rfl
  have hfind4 : nlFind s4.names k = some s1.files.length := by rw [hn4]; exact find_put_same
  exact {
    here := hfind4
    only := fun p hp e => by
      have hp' : p ∈ nlPut s1.names k s1.files.length := by rw [← hn4]; exact hp
      rcases mem_nlPut.1 hp' with rfl | ⟨hp1, _⟩
      · rfl
      · have := (hok.names p (hsub p hp1)).1
        rw [← hfiles] at this
        omega
    sure := hfind4
    steps := fun x hx => by cases hx
    writes := fun x hx => by
      have hx' : x ∈ s4.writes := hx
      rw [hs4] at hx'
      have := (List.mem_filter.1 hx').2
      simpa using this
    lasts := by
      show (s4.files.getD s1.files.length ([], [])).2 = b
      rw [hs4]
      show ((s3.files.set s1.files.length (s3.stands s1.files.length, s3.stands s1.files.length)).getD s1.files.length ([], [])).2 = b
      rw [List.getD_eq_getElem?_getD, List.getElem?_set_self hl3']
      exact hst3
    lt := by
      show s1.files.length < s4.files.length
      rw [hs4]
      show s1.files.length < (s3.files.set _ _).length
      rw [List.length_set]; exact hl3'
    now := rfl
    times := fun i hi => by
      obtain rfl : i = 0 := by have : i ≤ ([] : List NStep).length := hi; simpa using this
      exact List.mem_singleton.2 rfl }

end Go.Proofs.Ytgckcnnnblggbaa
/- Disk: does: a step of the law's, but of one name. -/
namespace Go.Proofs.Ytgckcnnnblggbaa
open Go.RowKit Go.Maps
set_option maxRecDepth 1000000

theorem step_size : (Try.prog.info? 45).map (fun i => (i.zero, i.size)) = some (some (.agg #[.int .i64 0, .int .i64 0, .string ⟨#[]⟩, .string ⟨#[]⟩, .int .i64 0, .int .i64 0, .slice none 0 0, .int .i64 0, .slice none 0 0, .int .i64 0]), 10) := by kernel_rfl

set_option maxHeartbeats 4000000 in
theorem does_any {w : World} {p : Nat} {s : DSt} {own : List Nat} {R : Nat → Prop} (h0 : DiskAt w p s own R) {N : Nat} (hok : s.Ok N) (hN : N + 1 < maxList) (x : LStep) {who n sn st : Int} {da ka : Option Addr} {dc kl kc : Nat} (but : List UInt8)
    (hrow : RowAt w da (x.data.map bv)) (hnil : da = none → dc = 0) (hl : x.data.length ≤ 140737488355328) (h64 : -9223372036854775808 ≤ x.at_ ∧ x.at_ < 9223372036854775808) (hname : x.name.length ≤ maxLen) (hto : x.dst.length ≤ maxLen) :
    Calls Try.prog 16 #[.pointer (some ⟨p, 0, none⟩), .agg #[.int .i64 x.kind, .int .i64 who, .string ⟨x.name.toArray⟩, .string ⟨x.dst.toArray⟩, .int .i64 x.at_, .int .i64 n, .slice da x.data.length dc, .int .i64 sn, .slice ka kl kc, .int .i64 st], .string ⟨but.toArray⟩] w
      fun e w' => e = .returned (.tuple #[]) ∧ Turns w w' p (lawStep s x but) own R := by
  obtain ⟨mf, mn, ms, fb, vs, vw, ss, ws, e, h, rfl⟩ := h0
  obtain ⟨w1, hw1⟩ : ∃ w1, w.alloc (.cells #[.int .i64 x.kind, .int .i64 who, .string ⟨x.name.toArray⟩, .string ⟨x.dst.toArray⟩, .int .i64 x.at_, .int .i64 n, .slice da x.data.length dc, .int .i64 sn, .slice ka kl kc, .int .i64 st] 45) = w1 := ⟨_, rfl⟩
  have hb1 : Below w.heap.size w w1 := by rw [← hw1]; exact below_alloc _ _
  have hbx : w1.heap[w.heap.size]? = some (.cells #[.int .i64 x.kind, .int .i64 who, .string ⟨x.name.toArray⟩, .string ⟨x.dst.toArray⟩, .int .i64 x.at_, .int .i64 n, .slice da x.data.length dc, .int .i64 sn, .slice ka kl kc, .int .i64 st] 45 (0, 0)) := by rw [← hw1]; exact World.alloc_heap_new w _
  have hc01 : Chg (· ∈ ownL p mf mn vs vw fb) w w1 := by rw [← hw1]; exact Chg.alloc _ _ _
  have hg := h.grow hb1
  have c0 := cell_of_heap hbx (i := 0) (v := .int .i64 x.kind) (by rfl)
  have c2 := cell_of_heap hbx (i := 2) (v := .string ⟨x.name.toArray⟩) (by rfl)
  have c3 := cell_of_heap hbx (i := 3) (v := .string ⟨x.dst.toArray⟩) (by rfl)
  have c4 := cell_of_heap hbx (i := 4) (v := .int .i64 x.at_) (by rfl)
  have c6 := cell_of_heap hbx (i := 6) (v := .slice da x.data.length dc) (by rfl)
  obtain ⟨tb, htb⟩ : ∃ tb, skips x but = tb := ⟨_, rfl⟩
  have hT0 : Turns w w1 p s (ownL p mf mn vs vw fb) R := Turns.after hc01 h.hR hg.turns
  have HR := Lib.hid h.hR
  have HTB := Lib.hid htb; clear htb
  go_enter Try.func16, Try.ntmps16
  go_upto_region 1 with fail
  go_cut [23] from 6 to 23 (fun s23 wx => s23 = .bool tb ∧ w1 = wx)
  case first =>
    have htb : ((x.name == but && !(but == [])) || (x.dst == but && !(but == []))) = tb := HTB.out
    cases b1 : x.name == but <;> cases b2 : but == [] <;> cases b3 : x.dst == but <;> rw [b1, b2, b3] at htb <;> subst htb
    all_goals
      first
        | have n1 : (x.name != but) = true := by rw [bne, b1]; rfl
        | have n1 : (x.name != but) = false := by rw [bne, b1]; rfl
      first
        | have n2 : (but != []) = true := by rw [bne, b2]; rfl
        | have n2 : (but != []) = false := by rw [bne, b2]; rfl
      first
        | have n3 : (x.dst != but) = true := by rw [bne, b3]; rfl
        | have n3 : (x.dst != but) = false := by rw [bne, b3]; rfl
      go_wp2
      go_meet
      case rel => exact ⟨rfl, rfl⟩
  case rest =>
  obtain ⟨h23, hwx⟩ := hcut
  subst h23 hwx
  cases tb with
  | true =>
    have hs : lawStep s x but = s := by unfold lawStep; rw [HTB.out]; rfl
    have HS := Lib.hid hs; clear hs
    go_wp2
    exact bodyPost_ret (results_none rfl _ _ _) rfl ⟨rfl, by rw [HS.out]; exact hT0⟩
  | false =>
    have HNS : Hid (skips x but = false) := HTB
    by_cases k1 : x.kind = 1
    · have hs : lawStep s x but = (s.create x.name).1 := by unfold lawStep; rw [HNS.out]; simp [k1]
      have HS := Lib.hid hs
      have t1 : (x.kind == 1) = true := by simpa using k1
      have hc := Create_any hg hname hok (by omega)
      clear k1 hs
      go_wp2_with (go_at_call 17; refine hc.mono ?_; rintro _ w2 ⟨rfl, hT2⟩)
      go_end0
      exact ⟨rfl, by rw [HS.out]; exact Turns.after hc01 HR.out hT2⟩
    by_cases k2 : x.kind = 2
    · have hs : lawStep s x but = (s.put x.name x.at_ x.data).1 := by unfold lawStep; rw [HNS.out]; simp [k2]
      have HS := Lib.hid hs
      have f1 : (x.kind == 1) = false := by simp; omega
      have t2 : (x.kind == 2) = true := by simpa using k2
      have hc := Write_any hg hname hok hN (hrow.below hb1) hnil hl h64
      clear k1 k2 hs
      go_wp2_with (go_at_call 12; refine hc.mono ?_; rintro _ w2 ⟨rfl, hT2⟩)
      go_end0
      exact ⟨rfl, by rw [HS.out]; exact Turns.after hc01 HR.out hT2⟩
    by_cases k3 : x.kind = 3
    · have hs : lawStep s x but = (s.cut x.name x.at_).1 := by unfold lawStep; rw [HNS.out]; simp [k3]
      have HS := Lib.hid hs
      have f1 : (x.kind == 1) = false := by simp; omega
      have f2 : (x.kind == 2) = false := by simp; omega
      have t3 : (x.kind == 3) = true := by simpa using k3
      have hc := Cut_any hg hname hok hN h64
      clear k1 k2 k3 hs
      go_wp2_with (go_at_call 14; refine hc.mono ?_; rintro _ w2 ⟨rfl, hT2⟩)
      go_end0
      exact ⟨rfl, by rw [HS.out]; exact Turns.after hc01 HR.out hT2⟩
    by_cases k4 : x.kind = 4
    · have hs : lawStep s x but = (s.sync x.name).1 := by unfold lawStep; rw [HNS.out]; simp [k4]
      have HS := Lib.hid hs
      have f1 : (x.kind == 1) = false := by simp; omega
      have f2 : (x.kind == 2) = false := by simp; omega
      have f3 : (x.kind == 3) = false := by simp; omega
      have t4 : (x.kind == 4) = true := by simpa using k4
      have hc := Sync_any hg hname hok hN
      clear k1 k2 k3 k4 hs
      go_wp2_with (go_at_call 18; refine hc.mono ?_; rintro _ w2 ⟨rfl, hT2⟩)
      go_end0
      exact ⟨rfl, by rw [HS.out]; exact Turns.after hc01 HR.out hT2⟩
    by_cases k5 : x.kind = 5
    · have hs : lawStep s x but = (s.syncNames).1 := by unfold lawStep; rw [HNS.out]; simp [k5]
      have HS := Lib.hid hs
      have f1 : (x.kind == 1) = false := by simp; omega
      have f2 : (x.kind == 2) = false := by simp; omega
      have f3 : (x.kind == 3) = false := by simp; omega
      have f4 : (x.kind == 4) = false := by simp; omega
      have t5 : (x.kind == 5) = true := by simpa using k5
      have hc := SyncNames_any hg hok hN
      clear k1 k2 k3 k4 k5 hs
      go_wp2_with (go_at_call 19; refine hc.mono ?_; rintro _ w2 ⟨rfl, hT2⟩)
      go_end0
      exact ⟨rfl, by rw [HS.out]; exact Turns.after hc01 HR.out hT2⟩
    by_cases k6 : x.kind = 6
    · have hs : lawStep s x but = (s.rename x.name x.dst).1 := by unfold lawStep; rw [HNS.out]; simp [k6]
      have HS := Lib.hid hs
      have f1 : (x.kind == 1) = false := by simp; omega
      have f2 : (x.kind == 2) = false := by simp; omega
      have f3 : (x.kind == 3) = false := by simp; omega
      have f4 : (x.kind == 4) = false := by simp; omega
      have f5 : (x.kind == 5) = false := by simp; omega
      have t6 : (x.kind == 6) = true := by simpa using k6
      have hc := Rename_any hg hname hto hok hN
      clear k1 k2 k3 k4 k5 k6 hs
      go_wp2_with (go_at_call 44; refine hc.mono ?_; rintro _ w2 ⟨rfl, hT2⟩)
      go_end0
      exact ⟨rfl, by rw [HS.out]; exact Turns.after hc01 HR.out hT2⟩
    by_cases k7 : x.kind = 7
    · have hs : lawStep s x but = (s.remove x.name).1 := by unfold lawStep; rw [HNS.out]; simp [k7]
      have HS := Lib.hid hs
      have f1 : (x.kind == 1) = false := by simp; omega
      have f2 : (x.kind == 2) = false := by simp; omega
      have f3 : (x.kind == 3) = false := by simp; omega
      have f4 : (x.kind == 4) = false := by simp; omega
      have f5 : (x.kind == 5) = false := by simp; omega
      have f6 : (x.kind == 6) = false := by simp; omega
      have t7 : (x.kind == 7) = true := by simpa using k7
      have hc := Remove_any hg hname hok hN
      clear k1 k2 k3 k4 k5 k6 k7 hs
      go_wp2_with (go_at_call 13; refine hc.mono ?_; rintro _ w2 ⟨rfl, hT2⟩)
      go_end0
      exact ⟨rfl, by rw [HS.out]; exact Turns.after hc01 HR.out hT2⟩
    have f1 : (x.kind == 1) = false := by simp; omega
    have f2 : (x.kind == 2) = false := by simp; omega
    have f3 : (x.kind == 3) = false := by simp; omega
    have f4 : (x.kind == 4) = false := by simp; omega
    have f5 : (x.kind == 5) = false := by simp; omega
    have f6 : (x.kind == 6) = false := by simp; omega
    have f7 : (x.kind == 7) = false := by simp; omega
    have hs : lawStep s x but = s := by unfold lawStep; rw [HNS.out]; simp [k1, k2, k3, k4, k5, k6, k7]
    have HS := Lib.hid hs
    clear k1 k2 k3 k4 k5 k6 k7 hs
    go_wp2
    go_end0
    exact ⟨rfl, by rw [HS.out]; exact hT0⟩

end Go.Proofs.Ytgckcnnnblggbaa
/- Disk: DiskLasts: what the walk holds: steps that are handed in, names at all times. -/
namespace Go.Proofs.Ytgckcnnnblggbaa
open Go.RowKit Go.Maps Go.Shelf

/-- a step that is handed in: its ten cells -/
def StepAt (w : World) (b o : Nat) (x : LStep) : Prop := ∃ (who n sn st : Int) (da ka : Option Addr) (dc kl kc : Nat),
  w.cell? ⟨b, o, none⟩ = some (.int .i64 x.kind) ∧ w.cell? ⟨b, o + 1, none⟩ = some (.int .i64 who) ∧ w.cell? ⟨b, o + 2, none⟩ = some (.string ⟨x.name.toArray⟩) ∧ w.cell? ⟨b, o + 3, none⟩ = some (.string ⟨x.dst.toArray⟩) ∧
  w.cell? ⟨b, o + 4, none⟩ = some (.int .i64 x.at_) ∧ w.cell? ⟨b, o + 5, none⟩ = some (.int .i64 n) ∧ w.cell? ⟨b, o + 6, none⟩ = some (.slice da x.data.length dc) ∧ w.cell? ⟨b, o + 7, none⟩ = some (.int .i64 sn) ∧
  w.cell? ⟨b, o + 8, none⟩ = some (.slice ka kl kc) ∧ w.cell? ⟨b, o + 9, none⟩ = some (.int .i64 st) ∧ (da = none → dc = 0) ∧ RowAt w da (x.data.map bv)
def StepOkL (x : LStep) : Prop := x.data.length ≤ 140737488355328 ∧ (-9223372036854775808 ≤ x.at_ ∧ x.at_ < 9223372036854775808) ∧ x.name.length ≤ maxLen ∧ x.dst.length ≤ maxLen
/-- steps that are handed in -/
def StepsArg (w : World) (a : Option Addr) (xs : List LStep) : Prop := xs ≠ [] → ∃ b off, a = some ⟨b, off, none⟩ ∧ ∀ (i : Nat) x, xs[i]? = some x → StepAt w b (off + i * 10) x
theorem StepAt.below {w w' : World} {b o : Nat} {x : LStep} (h : StepAt w b o x) (hb : Below w.heap.size w w') : StepAt w' b o x := by
  obtain ⟨who, n, sn, st, da, ka, dc, kl, kc, h0, h1, h2, h3, h4, h5, h6, h7, h8, h9, hn, hr⟩ := h
  have mv : ∀ {j : Nat} {v : Value}, w.cell? ⟨b, j, none⟩ = some v → w'.cell? ⟨b, j, none⟩ = some v := fun {j v} hc => (hb.cell (p := ⟨b, j, none⟩) (cell_lt hc)).trans hc
  exact ⟨who, n, sn, st, da, ka, dc, kl, kc, mv h0, mv h1, mv h2, mv h3, mv h4, mv h5, mv h6, mv h7, mv h8, mv h9, hn, hr.below hb⟩
theorem StepsArg.below {w w' : World} {a : Option Addr} {xs : List LStep} (h : StepsArg w a xs) (hb : Below w.heap.size w w') : StepsArg w' a xs := fun hx => by
  obtain ⟨b, off, e, hc⟩ := h hx
  exact ⟨b, off, e, fun i x hi => (hc i x hi).below hb⟩

/-- the names at all times, as the law keeps them: off the disk's own blocks -/
def TimesAt (w : World) (own : List Nat) (R : Nat → Prop) (v : Value) (T : List (List (List UInt8))) : Prop :=
  ∃ vals, w.ownsRow 0 48 1 v T.length vals ∧ (∀ b, v.ownBlock = some b → b ∉ own ∧ ¬ R b) ∧
    ∀ (i : Nat) x t, vals[i]? = some x → T[i]? = some t → ∃ a c, x = .slice a t.length c ∧ RowAt w a (t.map sv) ∧ ∀ y, a = some y → y.block ∉ own ∧ y.block < w.heap.size ∧ v.ownBlock ≠ some y.block
theorem TimesAt.nil (w : World) (own : List Nat) (R : Nat → Prop) : TimesAt w own R (.slice none 0 0) [] :=
  ⟨[], World.ownsRow_nil _ _ _ _, fun b h => (by cases h), fun i x t h => by simp at h⟩
theorem TimesAt.below {w w' : World} {own : List Nat} {R : Nat → Prop} {v : Value} {T : List (List (List UInt8))} (h : TimesAt w own R v T) (hb : Below w.heap.size w w') : TimesAt w' own R v T := by
  obtain ⟨vals, h1, h2, h3⟩ := h
  refine ⟨vals, (Chg.of_below (O := fun _ => False) hb).row h1 (fun _ _ h => h), h2, fun i x t hx ht => ?_⟩
  obtain ⟨a, c, e, hr, hy⟩ := h3 i x t hx ht
  exact ⟨a, c, e, hr.below hb, fun y hya => ⟨(hy y hya).1, Nat.lt_of_lt_of_le (hy y hya).2.1 hb.size, (hy y hya).2.2⟩⟩
theorem TimesAt.lt {w : World} {own : List Nat} {R : Nat → Prop} {v : Value} {T : List (List (List UInt8))} (h : TimesAt w own R v T) {b : Nat} (hb : v.ownBlock = some b) : b < w.heap.size := by
  obtain ⟨vals, h1, h2, h3⟩ := h
  exact (h1.lt b hb).2
/-- a step of the disk's leaves them -/
theorem TimesAt.turns {w w' : World} {own own' : List Nat} {R : Nat → Prop} {v : Value} {T : List (List (List UInt8))} (h : TimesAt w own R v T) (hc : Chg (· ∈ own) w w') (ho : ∀ b ∈ own', b ∈ own ∨ w.heap.size ≤ b) : TimesAt w' own' (RNew R w w' own') v T := by
  have hlt := fun b => h.lt (b := b)
  obtain ⟨vals, h1, h2, h3⟩ := h
  have hoff : ∀ b, b ∉ own → b < w.heap.size → b ∉ own' := fun b h1 h2 hm => by
    rcases ho b hm with h | h
    · exact h1 h
    · omega
  refine ⟨vals, hc.row h1 (fun k hk => (h2 k hk).1), fun b hb => ⟨hoff b (h2 b hb).1 (hlt b hb), fun hr => ?_⟩, fun i x t hx ht => ?_⟩
  · rcases hr with hr | hr
    · exact (h2 b hb).2 hr
    · have := hlt b hb; omega
  · obtain ⟨a, c, e, hr, hy⟩ := h3 i x t hx ht
    refine ⟨a, c, e, hr.chg hc (fun _ y hya => (hy y hya).1), fun y hya => ?_⟩
    obtain ⟨k1, k2, k3⟩ := hy y hya
    exact ⟨hoff _ k1 k2, by have := hc.size; omega, k3⟩
/-- one time more -/
theorem TimesAt.push {w w' : World} {own : List Nat} {R : Nat → Prop} {v v' : Value} {T : List (List (List UInt8))} (h : TimesAt w own R v T) (hown : ∀ b ∈ own, b < w.heap.size) (hR : ∀ b, R b → b < w.heap.size)
    {a : Option Addr} {c : Nat} {t : List (List UInt8)} (hr : RowAt w a (t.map sv)) (ha : ∀ y, a = some y → y.block ∉ own ∧ y.block < w.heap.size ∧ v.ownBlock ≠ some y.block)
    {vals : List Value} (hv : w.ownsRow 0 48 1 v T.length vals) (hvals : ∀ (i : Nat) x t, vals[i]? = some x → T[i]? = some t → ∃ a c, x = .slice a t.length c ∧ RowAt w a (t.map sv) ∧ ∀ y, a = some y → y.block ∉ own ∧ y.block < w.heap.size ∧ v.ownBlock ≠ some y.block)
    (hv' : w'.ownsRow 0 48 1 v' (T.length + 1) (vals ++ [.slice a t.length c])) (hg : w.grownBy w' v.ownBlock) (hb' : ∀ b, v'.ownBlock = some b → v.ownBlock = some b ∨ w.heap.size ≤ b) : TimesAt w' own R v' (T ++ [t]) := by
  have hlen : vals.length = T.length := by have := hv.1; omega
  obtain ⟨_, _, h2, _⟩ := h
  have keep : ∀ {a : Option Addr} {l : List Value}, RowAt w a l → (∀ y, a = some y → y.block < w.heap.size ∧ v.ownBlock ≠ some y.block) → RowAt w' a l := fun {a l} hr hy => hr.chg (O := fun b => v.ownBlock = some b) ⟨hg.os, hg.tape, hg.output, hg.size, fun k hk hn => hg.block k hk (fun e => hn e.symm)⟩ (fun _ y hya => (hy y hya).2)
  have hoff : ∀ y : Addr, y.block < w.heap.size → v.ownBlock ≠ some y.block → v'.ownBlock ≠ some y.block := fun y h1 h2 e => by
    rcases hb' _ e with h | h
    · exact h2 h
    · omega
  refine ⟨_, by rw [List.length_append]; exact hv', fun b hb => ?_, fun i x u hx hu => ?_⟩
  · rcases hb' b hb with h | h
    · exact h2 b h
    · exact ⟨fun hm => by have := hown b hm; omega, fun hm => by have := hR b hm; omega⟩
  · by_cases hi : i < T.length
    · rw [List.getElem?_append_left (by omega)] at hx
      rw [List.getElem?_append_left hi] at hu
      obtain ⟨a', c', e, hr', hy⟩ := hvals i x u hx hu
      exact ⟨a', c', e, keep hr' (fun y hya => (hy y hya).2), fun y hya => ⟨(hy y hya).1, Nat.lt_of_lt_of_le (hy y hya).2.1 hg.size, hoff y (hy y hya).2.1 (hy y hya).2.2⟩⟩
    · have hiT : i = T.length := by
        have := (List.getElem?_eq_some_iff.1 hu).1
        simp at this
        omega
      subst hiT
      rw [List.getElem?_append_right (by omega)] at hx
      simp [hlen] at hx hu
      subst hx; subst hu
      exact ⟨a, c, rfl, keep hr (fun y hya => (ha y hya).2), fun y hya => ⟨(ha y hya).1, Nat.lt_of_lt_of_le (ha y hya).2.1 hg.size, hoff y (ha y hya).2.1 (ha y hya).2.2⟩⟩

/-- the disk behind so many of the law's steps -/
noncomputable def stepsL (s : DSt) (xs : List LStep) (but : List UInt8) (k : Nat) : DSt := (xs.take k).foldl (fun s x => lawStep s x but) s
theorem stepsL_succ {s : DSt} {xs : List LStep} {but : List UInt8} {k : Nat} {x : LStep} (hx : xs[k]? = some x) : stepsL s xs but (k + 1) = lawStep (stepsL s xs but k) x but := by
  obtain ⟨hk, hx'⟩ := List.getElem?_eq_some_iff.1 hx
  unfold stepsL
  rw [List.take_succ_eq_append_getElem hk, List.foldl_append, hx']
  rfl
theorem stepsL_ok {s : DSt} {N : Nat} (h : s.Ok N) (xs : List LStep) (but : List UInt8) : ∀ k, k ≤ xs.length → (stepsL s xs but k).Ok (N + k)
  | 0, _ => h
  | k + 1, hk => by
    rw [stepsL_succ (x := xs[k]) (by simp)]
    exact lawStep_ok (stepsL_ok h xs but k (by omega)) _ _
def dataSum (xs : List LStep) : Nat := (xs.map fun x => x.data.length).sum
theorem stepsL_len {s : DSt} {M : Nat} (h : Len s M) (xs : List LStep) (but : List UInt8) : ∀ k, k ≤ xs.length → Len (stepsL s xs but k) (M + dataSum (xs.take k))
  | 0, _ => by simpa [stepsL, dataSum] using h
  | k + 1, hk => by
    rw [stepsL_succ (x := xs[k]) (by simp)]
    have := (stepsL_len h xs but k (by omega)).law xs[k] but
    have e : dataSum (xs.take (k + 1)) = dataSum (xs.take k) + xs[k].data.length := by
      unfold dataSum
      rw [List.take_succ_eq_append_getElem (by omega), List.map_append, List.sum_append]
      simp
    rw [e, ← Nat.add_assoc]
    exact this

theorem lawStep_room (s : DSt) (x : LStep) (but : List UInt8) : (lawStep s x but).room = s.room := by
  unfold lawStep
  split
  · rfl
  split
  · unfold DSt.create; split
    · rfl
    · split <;> rfl
  split
  · unfold DSt.put; split
    · rfl
    · simp only []
      split
      · rfl
      · split <;> rfl
  split
  · unfold DSt.cut; split
    · rfl
    · split <;> rfl
  split
  · unfold DSt.sync; split <;> rfl
  split
  · rfl
  split
  · unfold DSt.rename; split
    · rfl
    · split <;> rfl
  split
  · unfold DSt.remove; split <;> rfl
  · rfl
theorem stepsL_room {s : DSt} (xs : List LStep) (but : List UInt8) : ∀ k, k ≤ xs.length → (stepsL s xs but k).room = s.room
  | 0, _ => rfl
  | k + 1, hk => by
    rw [stepsL_succ (x := xs[k]) (by simp), lawStep_room]
    exact stepsL_room xs but k (by omega)
theorem room_ok {N M d : Nat} (h : N + M + d ≤ 1048576) : (N + 2) * M + d ≤ 1099511627776 := by
  by_cases hN : N ≤ 524288
  · have h1 : (N + 2) * M ≤ 524290 * 1048576 := Nat.mul_le_mul (by omega) (by omega)
    omega
  · have h1 : (N + 2) * M ≤ 1048578 * 524288 := Nat.mul_le_mul (by omega) (by omega)
    omega

/-- Names, in the law's words -/
theorem Has.namesT {lo : Nat} {w : World} {p : Nat} {s : DSt} {N : Nat} (h : Has lo w p s) (hok : s.Ok N) (hN : N < maxList) {t : List (List UInt8)} (ht : s.names.map (·.1) = t) :
    Calls Try.prog 20 #[.pointer (some ⟨p, 0, none⟩)] w fun e w' => ∃ na nc, e = .returned (.tuple #[.slice na t.length nc, .int .i64 0]) ∧ RowAt w' na (t.map sv) ∧ (∀ y, na = some y → w.heap.size ≤ y.block ∧ y.block < w'.heap.size) ∧ Below w.heap.size w w' :=
  (h.names hok hN).mono fun e w' ⟨v, k1, k2, k3⟩ => by
    subst ht
    obtain ⟨na, nc, rfl, hr, _⟩ := RowAt.of_owns k2
    rw [List.length_map]
    exact ⟨na, nc, k1, hr, fun y hy => k2.lt y.block (by rw [hy]; rfl), k3⟩

end Go.Proofs.Ytgckcnnnblggbaa
/- Disk: DiskLasts: the walk. -/
namespace Go.Proofs.Ytgckcnnnblggbaa
open Go.RowKit Go.Maps Go.Shelf
set_option maxRecDepth 1000000

def keptN : List UInt8 := [107, 101, 112, 116]
theorem keptN_ok : NameOk keptN := ⟨by decide, by decide, fun c hc => by
  simp only [keptN, List.mem_cons, List.not_mem_nil, or_false] at hc
  unfold ChOk
  rcases hc with rfl | rfl | rfl | rfl <;> decide⟩
theorem Try.info48 : (Try.prog.info? 48).map (fun i => (i.zero, i.size, i.bytes)) = some (some (.slice none 0 0), 1, 24) := by kernel_rfl
theorem of_len {room M : Nat} {L : List (List UInt8 × List UInt8)} (h : ∀ p ∈ L, p.2.length ≤ M) : Len (DSt.ofFiles room L) M := fun n => by
  show (((L.map fun p => (p.2, p.2)).getD n ([], [])).1).length ≤ M
  rw [List.getD_eq_getElem?_getD, List.getElem?_map]
  cases hg : L[n]? with
  | none => simp
  | some d => exact h d (List.mem_of_getElem? hg)

set_option maxHeartbeats 16000000 in
theorem diskLasts_walk {w : World} {cap sn st : Int} {fa aa da ba ka : Option Addr} {fc ac dc bc kc : Nat} {L : List (List UInt8 × List UInt8)} {xs ys : List LStep} {data : List UInt8} {keep : List Bool}
    (hA : FilesArg w fa L) (hxs : StepsArg w aa xs) (hys : StepsArg w ba ys) (hdat : RowAt w da (data.map bv)) (hdn : da = none → dc = 0) (hkr : RowAt w ka (keep.map Value.bool))
    (hxo : ∀ x ∈ xs, StepOkL x) (hyo : ∀ y ∈ ys, StepOkL y) (hkl : keep.length ≤ maxLen) (hst : st < 9223372036854775808) (hLn : ∀ p ∈ L, p.1.length ≤ maxLen)
    {M : Nat} (hLM : ∀ p ∈ L, p.2.length ≤ M) (hbulk : L.length + xs.length + ys.length + M + dataSum xs + data.length ≤ 1048576) :
    Calls Try.prog 5 #[.agg #[.int .i64 cap, .slice fa L.length fc], .slice aa xs.length ac, .slice da data.length dc, .slice ba ys.length bc, .agg #[.int .i64 sn, .slice ka keep.length kc, .int .i64 st]] w
      fun e w' => e = .returned (.bool true) ∧ Below w.heap.size w w' := by
  have hmx : maxList = 4194304 := rfl
  have hmax : maxLen = 9223372036854775807 := rfl
  obtain ⟨w1, hw1⟩ : ∃ w1, (w.alloc (.cells #[.int .i64 cap, .slice fa L.length fc] 41)).alloc (.cells #[.int .i64 sn, .slice ka keep.length kc, .int .i64 st] 38) = w1 := ⟨_, rfl⟩
  have hb1 : Below w.heap.size w w1 := by rw [← hw1]; exact (below_alloc w _).alloc (by simp) _
  have hz1 : w1.heap.size = w.heap.size + 1 + 1 := by rw [← hw1]; simp
  have b5 : w1.heap[w.heap.size]? = some (.cells #[.int .i64 cap, .slice fa L.length fc] 41 (0, 0)) := by rw [← hw1]; exact (Below.heap_alloc _ _ _ (by simp)).trans (World.alloc_heap_new w _)
  have b9 : w1.heap[w.heap.size + 1]? = some (.cells #[.int .i64 sn, .slice ka keep.length kc, .int .i64 st] 38 (0, 0)) := by rw [← hw1]; have := World.alloc_heap_new (w.alloc (.cells #[.int .i64 cap, .slice fa L.length fc] 41)) (.cells #[.int .i64 sn, .slice ka keep.length kc, .int .i64 st] 38); rwa [World.size_alloc] at this
  have cK := known_any w1
  have cN := num_any
  have hlt1 : w.heap.size + 1 < w1.heap.size := by omega
  have HZ1 := Lib.hid hz1; clear hz1
  go_enter Try.func5, Try.ntmps5
  go_wp2_with (go_at_call 9; refine cK.mono ?_; rintro _ w2 ⟨rfl, hb2⟩; have hs2 := hb2.size; have b5' := (hb2.block _ (by omega)).trans b5; have c5 := cell_of_heap b5' (i := 1) (v := .slice fa L.length fc) (by rfl); have hA2 := (hA.below hb1).below hb2; have cO := Of_any (cap := 1099511627776) (by decide) (c := fc) hA2 (by omega) (fun p hp => by have := hLM p hp; omega) hLn)
  refine cO.mono ?_
  rintro _ w3 ⟨hcase, hb3⟩
  have hs1 := hb1.size
  have hb02 : Below w.heap.size w w2 := hb1.trans (hb2.mono hs1)
  have hb03 : Below w.heap.size w w3 := hb02.trans (hb3.mono hb02.size)
  rcases hcase with ⟨hgood, p, own, rfl, hD, hown⟩ | ⟨hbad, rfl⟩
  case inr =>
    go_wp2
    go_ret
    exact ⟨rfl, hb03⟩
  have hs3 := hb3.size
  have hH0 : Has w2.heap.size w3 p (DSt.ofFiles 1099511627776 L) := ⟨own, _, hD, hown⟩
  have hok0 : (DSt.ofFiles 1099511627776 L).Ok L.length := DSt.Ok.ofFiles (by decide) ⟨hgood.1, hgood.2, fun q hq => by have := hLM q hq; unfold maxFile; omega⟩
  have hlen0 : Len (DSt.ofFiles 1099511627776 L) M := of_len hLM
  have hroom0 : (DSt.ofFiles 1099511627776 L).room = 1099511627776 := rfl
  have hb23 : Below w2.heap.size w2 w3 := hb3
  clear hD hown hA2
  generalize hs0 : DSt.ofFiles 1099511627776 L = s0 at *
  clear hs0
  clear cO c5
  go_wp2_with fail
  go_loopw [13] (fun i wr => ∃ k : Nat, k ≤ xs.length ∧ i = .int .i64 k ∧ Has w2.heap.size wr p (stepsL s0 xs [] k) ∧ Below w2.heap.size w2 wr) (fun i _ => xs.length - (RowKit.intOf i).toNat)
  case atStart => exact ⟨0, by omega, rfl, hH0, hb23⟩
  case round =>
    obtain ⟨k, hk, rfl, hH, hb⟩ := hrel
    have hb0r : Below w.heap.size w wr := hb02.trans (hb.mono hb02.size)
    by_cases hlt : k < xs.length
    · obtain ⟨x, hx⟩ : ∃ x, xs[k]? = some x := ⟨xs[k]'hlt, by simp⟩
      obtain ⟨xb, xo, rfl, hcs⟩ := (hxs.below hb0r) (fun e => by
        have h0 : xs.length = 0 := by rw [e]; rfl
        omega)
      obtain ⟨who, n, sn', st', da', ka', dc', kl', kc', h0, h1, h2, h3, h4, h5, h6, h7, h8, h9, hn, hr⟩ := hcs k x hx
      obtain ⟨own, R, hD, ho⟩ := hH
      obtain ⟨x1, x2, x3, x4⟩ := hxo x (List.mem_of_getElem? hx)
      have hdo := does_any hD (stepsL_ok hok0 xs [] k hk) (by omega) x (who := who) (n := n) (sn := sn') (st := st') (ka := ka') (kl := kl') (kc := kc') [] hr hn x1 x2 x3 x4
      have HX := Lib.hid hx
      have HCS := Lib.hid hcs
      have hlo := hb.size
      have j0 : (0 : Int) ≤ (k : Int) := by omega
      have j1 : (k : Int) < (xs.length : Int) := by omega
      clear hx hcs
      go_wp2_with (go_at_call 16; refine hdo.mono ?_; rintro _ w4 ⟨rfl, hT⟩)
      obtain ⟨hH4, hb4⟩ := Has.of_turns ho hlo hT
      go_roundw
      case rel => exact ⟨k + 1, by omega, by go_num, by rw [stepsL_succ HX.out]; exact hH4, hb.trans hb4⟩
      case measure => simp [RowKit.intOf]; omega
    · obtain rfl : k = xs.length := by omega
      have ok1 := stepsL_ok hok0 xs [] xs.length (Nat.le_refl _)
      have len1 := stepsL_len hlen0 xs [] xs.length (Nat.le_refl _)
      rw [List.take_length] at len1
      have room1 := (stepsL_room (s := s0) xs [] xs.length (Nat.le_refl _)).trans hroom0
      generalize stepsL s0 xs [] xs.length = s1 at *
      obtain ⟨sA, sB, sC, sD, sE, r1, f, eA, eB, eC, eD, eE, hK⟩ := kept_start ok1 keptN_ok len1 (b := data) (by rw [room1]; exact room_ok (by omega))
      have okA := ok1.remove keptN
      rw [eA] at okA
      have okB := okA.create keptN
      rw [eB] at okB
      have okC := okB.put keptN 0 data
      rw [eC] at okC
      have okD := okC.sync keptN
      rw [eD] at okD
      have okE := okD.syncNames
      rw [eE] at okE
      have HE := Lib.hid (And.intro eA (And.intro eB (And.intro eC (And.intro eD eE))))
      clear eA eB eC eD eE
      have hkl4 : keptN.length ≤ maxLen := by decide
      have c0 := hH.remove hkl4 ok1 (by omega)
      rw [HE.out.1] at c0
      have B := hb
      go_wp2_with (first
        | (go_at_call 11; refine (cN _ _).mono ?_; rintro _ wn ⟨rfl, rfl⟩)
        | (go_at_call 19; refine c4.mono ?_; rintro _ w8 ⟨rfl, H5, B5⟩)
        | (go_at_call 18; refine c3.mono ?_; rintro _ w7 ⟨rfl, H4, B4⟩; have c4 := H4.syncNames okD (by omega); rw [HE.out.2.2.2.2] at c4)
        | (go_at_call 12; refine c2.mono ?_; rintro _ w6 ⟨rfl, H3, B3⟩; have c3 := H3.sync hkl4 okC (by omega); rw [HE.out.2.2.2.1] at c3)
        | (go_at_call 17; refine c1.mono ?_; rintro _ w5 ⟨rfl, H2, B2⟩; have c2 := H2.put hkl4 (at_ := 0) (l := data) (xc := dc) (hdat.below (hb0r.trans ((B1.trans B2).mono hb02.size))) hdn (by omega) (by omega) okB (by omega); rw [HE.out.2.2.1] at c2)
        | (go_at_call 13; refine c0.mono ?_; rintro _ w4 ⟨rfl, H1, B1⟩; have c1 := H1.create hkl4 okA (by omega); rw [HE.out.2.1] at c1))
      have hb8 : Below w2.heap.size w2 w8 := hb.trans ((((B1.trans B2).trans B3).trans B4).trans B5)
      have hb08 : Below w.heap.size w w8 := hb02.trans (hb8.mono hb02.size)
      clear c0 c1 c2 c3 c4 H1 H2 H3 H4 okA okB okC okD
      obtain ⟨i0, hi, hz0, hz1, hz2⟩ := info_parts Try.info48
      obtain ⟨t0, ht0⟩ : ∃ t0, sE.names.map (·.1) = t0 := ⟨_, rfl⟩
      have cM := H5.namesT okE (by omega) ht0
      obtain ⟨own, R, hD, ho⟩ := H5
      refine cM.mono ?_
      rintro _ w9 ⟨na, nc, rfl, hnr, hnb, hb9⟩
      rw [ht0] at hK
      have HT0 := Lib.hid ht0; clear ht0
      have hs8 := hb8.size
      have hs9 := hb9.size
      have hD9 := hD.below hb9
      obtain ⟨wA, hwA⟩ : ∃ wA, w9.alloc (.cells #[.slice na t0.length nc] 48) = wA := ⟨_, rfl⟩
      have hb9A : Below w9.heap.size w9 wA := by rw [← hwA]; exact below_alloc _ _
      have hcA := fun j u (hu : ([.slice na t0.length nc] : List Value)[j]? = some u) => (by rw [← hwA]; exact cell_new w9 _ _ j u (by simpa using hu) : wA.cell? ⟨w9.heap.size, j, none⟩ = some u)
      have hDA := hD9.below hb9A
      have hsA := hb9A.size
      have hownA : ∀ b ∈ own, b < w8.heap.size := fun b hb => hD.own_lt hb
      have hRA : ∀ b, R b → b < wA.heap.size := fun b hb => (hDA.shared hb).1
      have hnoff : ∀ y, na = some y → y.block ∉ own ∧ y.block < wA.heap.size ∧ (Value.slice none 0 0).ownBlock ≠ some y.block := fun y hy => by
        have hl := hnb y hy
        exact ⟨fun hm => by have := hownA _ hm; omega, by omega, by simp [Value.ownBlock]⟩
      go_wp2_with (at_builtin; refine wpList_append_lies _ rfl (.tmp 82) (.tmp 84) 47 rfl 0 48 i0 (.slice none 0 0) 1 24 Try.underlying47 hi hz0 hz1 hz2 rfl (by decide) (.slice none 0 0) 0 [] rfl (World.ownsRow_nil _ _ _ _) ⟨w9.heap.size, 0, none⟩ 1 1 [.slice na t0.length nc] rfl rfl (fun j u hu => by rw [addr_add]; exact hcA j u hu) (by simp [Value.oneCell']) (by decide) (by decide) (by decide) (Nat.zero_le _) _ rfl ?_; intro g2 cap2 w10 hv10 hg10 hgb10 hgl10)
      have hTA : TimesAt w10 own R (.slice (some ⟨g2, 0, none⟩) (0 + 1) cap2) ([] ++ [t0]) := (TimesAt.nil wA own R).push (fun b hb => by have := hownA b hb; omega) hRA (hnr.below hb9A) hnoff (World.ownsRow_nil _ _ _ _) (fun i x t hx => by simp at hx) hv10 hg10 (fun b hb => by
        rcases hgb10 with h | h
        · cases h
        · simp only [Value.ownBlock, Option.some.injEq] at hb
          right; omega)
      simp only [List.nil_append, Nat.zero_add] at hTA
      have hc910 : Chg (fun _ => False) wA w10 := Chg.of_grown hg10 (fun k e => by cases e)
      have hD10 := hDA.kept hc910 (fun _ _ h => h) (fun _ _ h => h)
      have hbA10 : Below wA.heap.size wA w10 := hc910.below (fun _ h => h.elim)
      have hb10 : Below w2.heap.size w2 w10 := hb8.trans ((hb9.mono (by omega)).trans ((hb9A.mono (by omega)).trans (hbA10.mono (by omega))))
      have hTl : [t0].length = 1 := rfl
      have hg2l : w2.heap.size ≤ g2 := by
        rcases hgb10 with h | h
        · cases h
        · omega
      clear hcA hwA hv10 hg10 hgb10 hgl10 hnr hnb hnoff hDA hD9 hD hRA hownA cM
      have hknil : keptN ≠ [] := by decide
      have hE0 : stepsL sE ys keptN 0 = sE := rfl
      have HTl0 := Lib.hid hTl; clear hTl
      have HE0 := Lib.hid hE0; clear hE0
      go_loopw [17, 14] (fun i v wr => ∃ (k : Nat) (own : List Nat) (R : Nat → Prop) (T : List (List (List UInt8))) (g cap : Nat), k ≤ ys.length ∧ i = .int .i64 k ∧ v = .slice (some ⟨g, 0, none⟩) T.length cap ∧ T.length = k + 1 ∧ w2.heap.size ≤ g ∧ DiskAt wr p (stepsL sE ys keptN k) own R ∧ (∀ b ∈ own, w2.heap.size ≤ b) ∧ Below w2.heap.size w2 wr ∧ TimesAt wr own R (.slice (some ⟨g, 0, none⟩) T.length cap) T ∧ Hid (Kept (stepsL sE ys keptN k) keptN f data T ∧ (stepsL sE ys keptN k).names.map (·.1) ∈ T ∧ ∀ t ∈ T, t.length ≤ maxList)) (fun i _ _ => ys.length - (RowKit.intOf i).toNat)
      case atStart => exact ⟨0, own, R, [t0], g2, cap2, by omega, rfl, rfl, rfl, hg2l, hD10, ho, hb10, hTA, Lib.hid ⟨hK, by rw [HE0.out, HT0.out]; exact List.mem_singleton.2 rfl, fun t ht => by
        rw [List.mem_singleton.1 ht, ← HT0.out, List.length_map]
        have := okE.manyNames
        omega⟩⟩
      case round =>
        clear hTA hD10 hb10 hbA10 hc910 ho
        obtain ⟨k, own, R, T, g, cap, hk, rfl, rfl, hTl, hgw, hD, ho, hb, hTA, HKT⟩ := hrel
        have hb0r : Below w.heap.size w wr := hb02.trans (hb.mono hb02.size)
        have hTb : T.length ≤ 1048600 := by omega
        have HTl := Lib.hid hTl; clear hTl
        by_cases hlt : k < ys.length
        · obtain ⟨y, hy⟩ : ∃ y, ys[k]? = some y := ⟨ys[k]'hlt, by simp⟩
          obtain ⟨xb, xo, rfl, hcs⟩ := (hys.below hb0r) (fun e => by
            have h0 : ys.length = 0 := by rw [e]; rfl
            omega)
          obtain ⟨who, n, sn', st', da', ka', dc', kl', kc', h0, h1, h2, h3, h4, h5, h6, h7, h8, h9, hn, hr⟩ := hcs k y hy
          obtain ⟨x1, x2, x3, x4⟩ := hyo y (List.mem_of_getElem? hy)
          have okk := stepsL_ok okE ys keptN k hk
          have okn := stepsL_ok okE ys keptN (k + 1) hlt
          have hdo := does_any hD okk (by omega) y (who := who) (n := n) (sn := sn') (st := st') (ka := ka') (kl := kl') (kc := kc') keptN hr hn x1 x2 x3 x4
          have hlaw := HKT.out.1.law hknil y HKT.out.2.1
          rw [← stepsL_succ hy] at hdo hlaw
          have HLAW := Lib.hid hlaw; clear hlaw
          have HCS := Lib.hid hcs
          have hlo := hb.size
          have j0 : (0 : Int) ≤ (k : Int) := by omega
          have j1 : (k : Int) < (ys.length : Int) := by omega
          clear hy hcs okk
          go_wp2_with fail
          refine hdo.mono ?_
          rintro _ w4 ⟨rfl, own', hD', hc4, ho'⟩
          have hTA4 := hTA.turns hc4 ho'
          have hown2 : ∀ b ∈ own', w2.heap.size ≤ b := fun b hb' => by
            rcases ho' b hb' with h | h
            · exact ho b h
            · omega
          have hb4 : Below w2.heap.size wr w4 := ⟨hc4.os, hc4.tape, hc4.output, hc4.size, fun b hb' => hc4.block b (by omega) (fun hm => by have := ho b hm; omega)⟩
          obtain ⟨tN, htN⟩ : ∃ tN, (stepsL sE ys keptN (k + 1)).names.map (·.1) = tN := ⟨_, rfl⟩
          have cM := Has.namesT ⟨own', _, hD', hown2⟩ okn (by omega) htN
          have HTN := Lib.hid htN; clear htN
          clear hdo h0 h1 h2 h3 h4 h5 h6 h7 h8 h9 hr
          go_wp2_with fail
          refine cM.mono ?_
          rintro _ w5 ⟨na, nc, rfl, hnr, hnb, hb5⟩
          have hs4 := hc4.size
          have hs5 := hb5.size
          have hD5 := hD'.below hb5
          obtain ⟨wA, hwA⟩ : ∃ wA, w5.alloc (.cells #[.slice na tN.length nc] 48) = wA := ⟨_, rfl⟩
          have hb5A : Below w5.heap.size w5 wA := by rw [← hwA]; exact below_alloc _ _
          have hcA := fun j u (hu : ([.slice na tN.length nc] : List Value)[j]? = some u) => (by rw [← hwA]; exact cell_new w5 _ _ j u (by simpa using hu) : wA.cell? ⟨w5.heap.size, j, none⟩ = some u)
          have hDA := hD5.below hb5A
          have hsA := hb5A.size
          have hownA : ∀ b ∈ own', b < w4.heap.size := fun b hb' => hD'.own_lt hb'
          have hTA5 := (hTA4.below hb5).below hb5A
          have hTA5' := hTA5
          obtain ⟨vals, hvv, hvR, hvals⟩ := hTA5'
          have hgl : g < w4.heap.size := hTA4.lt rfl
          have hnoff : ∀ y, na = some y → y.block ∉ own' ∧ y.block < wA.heap.size ∧ (Value.slice (some (⟨g, 0, none⟩ : Addr)) T.length cap).ownBlock ≠ some y.block := fun y hy => by
            have hl := hnb y hy
            refine ⟨fun hm => by have := hownA _ hm; omega, by omega, fun e => ?_⟩
            simp only [Value.ownBlock, Option.some.injEq] at e
            omega
          go_wp2_with (at_builtin; refine wpList_append_lies _ rfl (.tmp 103) (.tmp 105) 47 rfl 0 48 i0 (.slice none 0 0) 1 24 Try.underlying47 hi hz0 hz1 hz2 rfl (by decide) (.slice (some ⟨g, 0, none⟩) T.length cap) T.length vals rfl hvv ⟨w5.heap.size, 0, none⟩ 1 1 [.slice na tN.length nc] rfl rfl (fun j u hu => by rw [addr_add]; exact hcA j u hu) (by simp [Value.oneCell']) (by decide) (by omega) (by omega) (Nat.zero_le _) _ rfl ?_; intro g2 cap2 w6 hv6 hg6 hgb6 hgl6)
          have hTA6 := hTA5.push (fun b hb' => by have := hownA b hb'; omega) (fun b hb' => (hDA.shared hb').1) ((hnr.below hb5A)) hnoff hvv hvals hv6 hg6 (fun b hb' => by
            rcases hgb6 with h | h
            · simp only [Value.ownBlock, Option.some.injEq] at hb' h ⊢
              left; omega
            · simp only [Value.ownBlock, Option.some.injEq] at hb'
              right; omega)
          have hcA6 : Chg (fun b => b = g) wA w6 := Chg.of_grown hg6 (fun k e _ => by simp only [Value.ownBlock, Option.some.injEq] at e; exact e.symm)
          have hgoff := hvR g rfl
          have hD6 := hDA.kept hcA6 (fun b hb' e => hgoff.2 (e ▸ hb')) (fun b hb' e => hgoff.1 (e ▸ hb'))
          have hg2w : w2.heap.size ≤ g2 := by
            rcases hgb6 with h | h
            · simp only [Value.ownBlock, Option.some.injEq] at h; omega
            · omega
          have hb46 : Below w2.heap.size w4 w6 := (hb5.mono (by omega)).trans ((hb5A.mono (by omega)).trans ⟨hcA6.os, hcA6.tape, hcA6.output, hcA6.size, fun b hb' => hcA6.block b (by omega) (by omega)⟩)
          have hl := HLAW.out
          rw [HTN.out] at hl
          exact ⟨⟨k + 1, own', _, T ++ [tN], g2, cap2, by omega, by go_num, by rw [List.length_append]; rfl, by rw [List.length_append, HTl.out]; rfl, hg2w, hD6, hown2, hb.trans (hb4.trans hb46), by rw [List.length_append]; exact hTA6, Lib.hid ⟨hl, by rw [HTN.out]; simp, fun t ht => by
            rcases List.mem_append.1 ht with h | h
            · exact HKT.out.2.2 t h
            · rw [List.mem_singleton.1 h, ← HTN.out, List.length_map]
              have := okn.manyNames
              omega⟩⟩, by simp [RowKit.intOf]; omega⟩
        · obtain rfl : k = ys.length := by omega
          have okF := stepsL_ok okE ys keptN ys.length (Nat.le_refl _)
          generalize stepsL sE ys keptN ys.length = sF at *
          have HF : Has w2.heap.size wr p sF := ⟨own, R, hD, ho⟩
          have b9r := (hb.block _ (by omega)).trans ((hb2.block _ (by omega)).trans b9)
          have q0 := cell_of_heap b9r (i := 0) (v := .int .i64 sn) (by rfl)
          have q1 := cell_of_heap b9r (i := 1) (v := .slice ka keep.length kc) (by rfl)
          have q2 := cell_of_heap b9r (i := 2) (v := .int .i64 st) (by rfl)
          have hlo := hb.size
          have cS := HF.stop (names := sn) (kc := kc) hst (hkr.below hb0r) hkl okF (by omega)
          obtain ⟨hrd1, hnm1⟩ := HKT.out.1.stop sn keep st (n := (data.length : Int) + 1) (by omega)
          obtain ⟨hrd2, _⟩ := HKT.out.1.stop 0 [] (-1) (n := (data.length : Int) + 1) (by omega)
          have okL := okF.stop sn keep st
          have okN := okF.stop 0 [] (-1)
          obtain ⟨tL, htL⟩ : ∃ tL, (sF.stop sn keep st).names.map (·.1) = tL := ⟨_, rfl⟩
          rw [htL] at hnm1
          have HNM := Lib.hid hnm1; have HR1 := Lib.hid hrd1; have HR2 := Lib.hid hrd2; have HTL := Lib.hid htL
          clear hrd1 hrd2 hnm1 htL
          have hkl4 : keptN.length ≤ maxLen := by decide
          have hTAr := hTA
          clear hD hTA ho
          go_wp2_with (first
            | (go_at_call 20; refine cNm.mono ?_; rintro _ w15 ⟨na, nc, rfl, hnr, hnb, B15⟩)
            | (go_at_call 22; refine cR2.mono ?_; rintro _ w14 ⟨U2, rfl, hU2, B14⟩; obtain ⟨ua2, uc2, rfl, _, _, hu2⟩ := hU2.row; have cNm := (HL13.below B14).namesT okL (by omega) HTL.out)
            | (go_at_call 22; refine cR1.mono ?_; rintro _ w13 ⟨U1, rfl, hU1, B13⟩; obtain ⟨ua1, uc1, rfl, _, _, hu1⟩ := hU1.row; have HL13 := HL12.below B13; have cR2 := (HN12.below B13).read hkl4 (at_ := 0) (n := (data.length : Int) + 1) (by omega) okN (by omega); rw [HR2.out] at cR2)
            | (go_at_call 21; refine cS2.mono ?_; rintro _ w12 ⟨po2, rfl, HN12, B12⟩; have HL12 := HL11.below B12; have cR1 := HL12.read hkl4 (at_ := 0) (n := (data.length : Int) + 1) (by omega) okL (by omega); rw [HR1.out] at cR1)
            | (go_at_call 21; refine cS.mono ?_; rintro _ w11 ⟨po, rfl, HL11, B11⟩; have cS2 := (HF.below B11).stop (names := 0) (torn := -1) (keep := []) (ka := none) (kc := 0) (by decide) (RowAt.nil _ _) (by decide) okF (by omega)))
          have hTAf := ((((hTAr.below B11).below B12).below B13).below B14).below B15
          have s11 := B11.size
          have s12 := B12.size
          have s13 := B13.size
          have s14 := B14.size
          have s15 := B15.size
          have hb015 : Below w.heap.size w w15 := hb0r.trans ((B11.trans ((B12.mono (by omega)).trans ((B13.mono (by omega)).trans ((B14.mono (by omega)).trans (B15.mono (by omega)))))).mono (by omega))
          have hu1f := (hu1.below B14).below B15
          have hu2f := hu2.below B15
          have hdatf := hdat.below hb015
          clear q0 q1 q2 hTAr B11 B12 B13 B14 B15 hu1 hu2
          go_loopw [29, 28] (fun i b wz => ∃ (k : Nat) (bb : Bool), k ≤ T.length ∧ i = .int .i64 k ∧ b = .bool bb ∧ Below w15.heap.size w15 wz ∧ Hid ((T.take k).any (· == tL) = bb)) (fun i _ _ => T.length - (RowKit.intOf i).toNat)
          case atStart => exact ⟨0, false, by omega, rfl, rfl, Below.refl _ _, Lib.hid (by simp)⟩
          case round =>
            obtain ⟨k, bb, hk, rfl, rfl, hbz, HANY⟩ := hrel
            by_cases hlt : k < T.length
            · obtain ⟨t, ht⟩ : ∃ t, T[k]? = some t := ⟨T[k]'hlt, by simp⟩
              have hTAz := hTAf.below hbz
              obtain ⟨vals, hvv, _, hvals⟩ := hTAz
              obtain ⟨_, _, hve, hrow, hvl⟩ := RowAt.of_owns hvv
              simp only [Value.slice.injEq] at hve
              obtain ⟨rfl, _, rfl⟩ := hve
              have hvk : vals[k]? = some (vals[k]'(by omega)) := by simp
              obtain ⟨ta, tc, hte, htr, _⟩ := hvals k _ t hvk ht
              obtain ⟨gb, go, hge, hcx⟩ := hrow.at_ (k := k) (by omega)
              simp only [Option.some.injEq, Addr.mk.injEq] at hge
              obtain ⟨rfl, rfl, _⟩ := hge
              rw [hte, Nat.zero_add] at hcx
              have htl := HKT.out.2.2 t (List.mem_of_getElem? ht)
              have cST := SameTexts_any (c := tc) (d := nc) htr (hnr.below hbz) (by omega)
              have hnx : (T.take (k + 1)).any (· == tL) = (bb || (t == tL)) := by
                obtain ⟨h1, h2⟩ := List.getElem?_eq_some_iff.1 ht
                rw [List.take_succ_eq_append_getElem h1, List.any_append, HANY.out, h2]
                simp
              have HNX := Lib.hid hnx
              have j0 : (0 : Int) ≤ (k : Int) := by omega
              have j1 : (k : Int) < (T.length : Int) := by omega
              clear hnx ht hvk hte hvals hvv hrow hvl
              cases bb with
              | true =>
                go_wp2
                go_roundw
                case rel => exact ⟨k + 1, true, by omega, by go_num, rfl, hbz, Lib.hid HNX.out⟩
                case measure => simp [RowKit.intOf]; omega
              | false =>
                go_wp2_with (go_at_call 23; refine cST.mono ?_; rintro _ wt ⟨rfl, BT⟩)
                go_roundw
                case rel => exact ⟨k + 1, _, by omega, by go_num, rfl, hbz.trans (BT.mono hbz.size), Lib.hid (by simpa using HNX.out)⟩
                case measure => simp [RowKit.intOf]; omega
            · obtain rfl : k = T.length := by omega
              obtain rfl : bb = true := by
                rw [← HANY.out, List.take_length, List.any_eq_true]
                exact ⟨tL, HNM.out, by simp⟩
              have HD : Hid ((data == data) = true) := Lib.hid (by simp)
              have cD1 := Same_any (c := uc1) (d := dc) (hu1f.below hbz) (hdatf.below hbz)
              have cD2 := Same_any (c := uc2) (d := dc) (hu2f.below hbz) (hdatf.below hbz)
              rw [HD.out] at cD1 cD2
              go_wp2_with (first
                | (go_at_call 11; refine (cN _ _).mono ?_; rintro _ wn ⟨rfl, rfl⟩)
                | (go_at_call 24; with_reducible refine cD1.mono ?_; rintro _ wn ⟨rfl, rfl⟩)
                | (go_at_call 24; with_reducible refine cD2.mono ?_; rintro _ wn ⟨rfl, rfl⟩))
              go_ret
              exact ⟨rfl, hb015.trans (hbz.mono hb015.size)⟩

end Go.Proofs.Ytgckcnnnblggbaa
/- Disk: what is handed in, opened: bytes, bools, files, steps; and its bulk. -/
namespace Go.Proofs.Ytgckcnnnblggbaa
open Go.RowKit Go.Maps Go.ChangeShapes Go.WideShapes Go.Deep
set_option maxRecDepth 1000000

theorem row_of_cells {w : World} {a : Addr} {n : Nat} {V : Nat → Value} (h : ∀ i, i < n → w.cell? (a.add i) = some (V i)) : RowAt w (some a) ((List.range n).map V) := fun hne => by
  have hn : 0 < n := by
    rcases Nat.eq_zero_or_pos n with h0 | h0
    · subst h0; simp at hne
    · exact h0
  obtain ⟨b, off, spot⟩ := a
  have h0 := World.cell?_spot (h 0 hn)
  have hspot : spot = none := by simpa [Addr.add] using h0
  subst hspot
  refine ⟨b, off, rfl, fun j u hu => ?_⟩
  rw [List.getElem?_map] at hu
  obtain ⟨i, hi, rfl⟩ := Option.map_eq_some_iff.1 hu
  obtain ⟨hj, hij⟩ := List.getElem?_eq_some_iff.1 hi
  simp at hj hij
  subst hij
  rw [← Go.WideShapes.add_plain]
  exact h j hj

section
variable {H : Type} {enc : TypeId × Value → H} {w : World} {base : Nat} {held : Bool}

theorem op_bytes {fuel : Nat} {v : Value} {x : DataW H × List MemPlace} (h : DataW.trod enc Try.prog w base (fun _ => true) held fuel 28 [v] = some x) :
    ∃ a c, ∃ l : List UInt8, v = .slice a l.length c ∧ (a = none → c = 0) ∧ RowAt w a (l.map bv) ∧ l.length + 1 ≤ Rows.uptoBulk x.1 := by
  rcases open_slice1 Try.underlying28 (by kernel_rfl) h with ⟨hcs, rfl⟩ | ⟨a, len, cap, m, n, V, D, Pl, hcs, hb, hl, hm, hmm, rfl, hel⟩
  · simp only [List.cons.injEq, and_true] at hcs
    subst hcs
    exact ⟨none, 0, [], rfl, fun _ => rfl, RowAt.nil _ _, by simp [Rows.uptoBulk]⟩
  · simp only [List.cons.injEq, and_true] at hcs
    subst hcs
    simp only [if_true] at hmm
    subst hmm
    obtain ⟨B, hB⟩ := choose_lt (α := UInt8) (p := fun i b => V i = bv b) (fun i hi => by
      obtain ⟨c, h1, _, h3⟩ := DataW.trod_int Try.underlying5 (hel i hi).2
      have h4 := u8_of_wf h3
      simp only [List.cons.injEq, and_true] at h1
      refine ⟨UInt8.ofNat c.toNat, ?_⟩
      rw [h1]
      unfold bv
      congr 1
      rw [UInt8.toNat_ofNat']
      omega)
    refine ⟨some a, m, (List.range len).map B, by simp, fun h => (by cases h), ?_, ?_⟩
    · have hr := row_of_cells (w := w) (a := a) (n := len) (V := fun i => bv (B i)) (fun i hi => by rw [(hel i (by omega)).1, hB i (by omega)])
      rw [List.map_map]
      exact hr
    · have := bulks.slice_le ((List.range len).map D) ((List.range (m - len)).map fun j => D (len + j))
      simp at this
      simp
      omega

theorem op_bools {fuel : Nat} {v : Value} {x : DataW H × List MemPlace} (h : DataW.trod enc Try.prog w base (fun _ => true) held fuel 35 [v] = some x) :
    ∃ a c, ∃ l : List Bool, v = .slice a l.length c ∧ RowAt w a (l.map Value.bool) ∧ l.length ≤ maxLen := by
  rcases open_bools Try.underlying35 Try.underlying4 (by kernel_rfl) h with ⟨hcs, rfl⟩ | ⟨a, len, cap, B, hcs, hb, hl, hm, rfl, hel⟩
  · simp only [List.cons.injEq, and_true] at hcs
    subst hcs
    exact ⟨none, 0, [], rfl, RowAt.nil _ _, by unfold maxLen; simp⟩
  · simp only [List.cons.injEq, and_true] at hcs
    subst hcs
    refine ⟨some a, cap, (List.range len).map B, by simp, ?_, by simp; omega⟩
    have hr := row_of_cells (w := w) (a := a) (n := len) (V := fun i => .bool (B i)) (fun i hi => hel i (by omega))
    rw [List.map_map]
    exact hr

theorem bulk_sum {n : Nat} {D : Nat → DataW H} {f : Nat → Nat} (h : ∀ i, i < n → f i + 1 ≤ Rows.uptoBulk (D i)) : n + ((List.range n).map f).sum ≤ Rows.uptoBulkAll ((List.range n).map D) := by
  induction n with
  | zero => simp [Rows.uptoBulkAll]
  | succ n ih =>
    have h1 := ih (fun i hi => h i (by omega))
    have h2 := h n (by omega)
    rw [List.range_succ, List.map_append, List.map_append, List.sum_append, bulks.append]
    simp [Rows.uptoBulkAll]
    omega
instance : Inhabited (List UInt8 × List UInt8) := ⟨([], [])⟩
theorem op_files {fuel : Nat} {v : Value} {x : DataW H × List MemPlace} (h : DataW.trod enc Try.prog w base (fun _ => true) held fuel 39 [v] = some x) :
    ∃ a c, ∃ L : List (List UInt8 × List UInt8), v = .slice a L.length c ∧ FilesArg w a L ∧ (∀ p ∈ L, p.1.length ≤ maxLen) ∧ L.length + (L.map fun p => p.2.length).sum + 1 ≤ Rows.uptoBulk x.1 := by
  rcases open_slice_pairs Try.underlying39 Try.underlying30 (by kernel_rfl) rfl rfl (by kernel_rfl) (by kernel_rfl) h with ⟨hcs, rfl⟩ | ⟨a, len, cap, m, n, V0, V1, D0, D1, P0, P1, hcs, hb, hl, hm, hmm, rfl, hel⟩
  · simp only [List.cons.injEq, and_true] at hcs
    subst hcs
    exact ⟨none, 0, [], rfl, fun h => absurd rfl h, fun p hp => (by cases hp), by simp [Rows.uptoBulk]⟩
  · simp only [List.cons.injEq, and_true] at hcs
    subst hcs
    simp only [if_true] at hmm
    subst hmm
    obtain ⟨B, hB⟩ := choose_lt (α := List UInt8 × List UInt8) (p := fun i b => V0 i = sv b.1 ∧ b.1.length ≤ maxLen ∧ (∃ ua uc, V1 i = .slice ua b.2.length uc ∧ (ua = none → uc = 0) ∧ RowAt w ua (b.2.map bv)) ∧ b.2.length + 1 ≤ Rows.uptoBulk (DataW.agg [D0 i, D1 i])) (fun i hi => by
      obtain ⟨_, _, h0, h1⟩ := hel i hi
      obtain ⟨s, e1, _, e3⟩ := DataW.trod_string Try.underlying9 h0
      obtain ⟨ua, uc, l, f1, f2, f3, f4⟩ := op_bytes h1
      simp only [List.cons.injEq, and_true] at e1
      refine ⟨(s.data.toList, l), by rw [e1]; show Value.string s = .string ⟨s.data.toList.toArray⟩; rw [Array.toArray_toList], by show s.data.toList.length ≤ maxLen; rw [Array.length_toList]; exact e3, ⟨ua, uc, f1, f2, f3⟩, ?_⟩
      simp only [Rows.uptoBulk, Rows.uptoBulkAll] at f4 ⊢
      omega)
    refine ⟨some a, m, (List.range len).map B, by simp, fun hne => ?_, fun p hp => ?_, ?_⟩
    · have hn : 0 < len := by
        rcases Nat.eq_zero_or_pos len with h0 | h0
        · subst h0; simp at hne
        · exact h0
      obtain ⟨b, off, spot⟩ := a
      have h0 := World.cell?_spot (hel 0 (by omega)).1
      have hspot : spot = none := by simpa [Addr.add] using h0
      subst hspot
      refine ⟨b, off, rfl, fun i d hd => ?_⟩
      rw [List.getElem?_map] at hd
      obtain ⟨j, hj, rfl⟩ := Option.map_eq_some_iff.1 hd
      obtain ⟨hjl, hij⟩ := List.getElem?_eq_some_iff.1 hj
      simp at hjl hij
      subst hij
      obtain ⟨c0, c1, _, _⟩ := hel i (by omega)
      obtain ⟨q1, _, ⟨ua, uc, q2, q3, q4⟩, _⟩ := hB i (by omega)
      rw [Go.WideShapes.add_plain, q1] at c0
      rw [Go.WideShapes.add_plain, q2] at c1
      exact ⟨c0, ua, uc, by rw [Nat.add_assoc]; exact c1, q3, q4⟩
    · obtain ⟨i, hi, rfl⟩ := List.mem_map.1 hp
      exact (hB i (by have := List.mem_range.1 hi; omega)).2.1
    · have hs := bulk_sum (n := len) (D := fun i => DataW.agg [D0 i, D1 i]) (f := fun i => (B i).2.length) (fun i hi => (hB i (by omega)).2.2.2)
      have he := bulks.slice_elems ((List.range len).map fun i => DataW.agg [D0 i, D1 i]) ((List.range (m - len)).map fun j => DataW.agg [D0 (len + j), D1 (len + j)])
      simp only [List.length_map, List.length_range, List.map_map]
      have e : ((fun p : List UInt8 × List UInt8 => p.2.length) ∘ B) = fun i => (B i).2.length := rfl
      rw [e]
      omega
end

end Go.Proofs.Ytgckcnnnblggbaa
/- Disk: steps that are handed in, opened. -/
namespace Go.Proofs.Ytgckcnnnblggbaa
open Go.RowKit Go.Maps Go.ChangeShapes Go.WideShapes Go.Deep
set_option maxRecDepth 1000000

instance : Inhabited LStep := ⟨⟨0, [], [], 0, []⟩⟩
section
variable {H : Type} {enc : TypeId × Value → H} {w : World} {base : Nat} {held : Bool}
theorem c_int : Try.prog.cellsOf 3 = 1 := by kernel_rfl
theorem c_i64 : Try.prog.cellsOf 2 = 1 := by kernel_rfl
theorem c_str : Try.prog.cellsOf 9 = 1 := by kernel_rfl
theorem c_byt : Try.prog.cellsOf 28 = 1 := by kernel_rfl
theorem c_bol : Try.prog.cellsOf 35 = 1 := by kernel_rfl
theorem c_stp : Try.prog.cellsOf 38 = 3 := by kernel_rfl
theorem c_step : Try.prog.cellsOf 45 = 10 := by kernel_rfl

theorem op_step {fuel : Nat} {cs : List Value} {x : DataW H × List MemPlace} (h : DataW.trod enc Try.prog w base (fun _ => true) held fuel 45 cs = some x) :
    ∃ (X : LStep) (who n sn st : Int) (da ka : Option Addr) (dc kl kc : Nat), cs = [.int .i64 X.kind, .int .i64 who, .string ⟨X.name.toArray⟩, .string ⟨X.dst.toArray⟩, .int .i64 X.at_, .int .i64 n, .slice da X.data.length dc, .int .i64 sn, .slice ka kl kc, .int .i64 st] ∧
      (da = none → dc = 0) ∧ RowAt w da (X.data.map bv) ∧ (-9223372036854775808 ≤ X.at_ ∧ X.at_ < 9223372036854775808) ∧ X.name.length ≤ maxLen ∧ X.dst.length ≤ maxLen ∧ X.data.length + 1 ≤ Rows.uptoBulk x.1 := by
  obtain ⟨xs, k, _, hxy, hl, hxl, hf⟩ := DataW.trod_struct Try.underlying45 h
  rw [c_step] at hl
  match xs, hxl, cs, hl with
  | [y0, y1, y2, y3, y4, y5, y6, y7], _, [v0, v1, v2, v3, v4, v5, v6, v7, v8, v9], _ =>
    have g0 := hf 0 _ rfl
    have g1 := hf 1 _ rfl
    have g2 := hf 2 _ rfl
    have g3 := hf 3 _ rfl
    have g4 := hf 4 _ rfl
    have g5 := hf 5 _ rfl
    have g6 := hf 6 _ rfl
    have g7 := hf 7 _ rfl
    simp only [List.getElem_toArray, List.getElem_cons_zero, List.getElem_cons_succ, c_int, c_i64, c_str, c_byt, c_stp, List.drop, List.take, List.getElem?_cons_zero, List.getElem?_cons_succ] at g0 g1 g2 g3 g4 g5 g6 g7
    obtain ⟨kind, e0, _, _⟩ := DataW.trod_int Try.underlying3 g0
    obtain ⟨who, e1, _, _⟩ := DataW.trod_int Try.underlying3 g1
    obtain ⟨s2, e2, _, l2⟩ := DataW.trod_string Try.underlying9 g2
    obtain ⟨s3, e3, _, l3⟩ := DataW.trod_string Try.underlying9 g3
    obtain ⟨at_, e4, _, w4⟩ := DataW.trod_int Try.underlying2 g4
    obtain ⟨n, e5, _, _⟩ := DataW.trod_int Try.underlying3 g5
    obtain ⟨da, dc, l, e6, hn, hr, hbk⟩ := op_bytes g6
    obtain ⟨zs, k2, _, _, hl2, hzl, hz⟩ := DataW.trod_struct Try.underlying38 g7
    match zs, hzl with
    | [z0, z1, z2], _ =>
      have q0 := hz 0 _ rfl
      have q1 := hz 1 _ rfl
      have q2 := hz 2 _ rfl
      simp only [List.getElem_toArray, List.getElem_cons_zero, List.getElem_cons_succ, c_int, c_bol, List.drop, List.take, List.getElem?_cons_zero, List.getElem?_cons_succ] at q0 q1 q2
      obtain ⟨sn, e7, _, _⟩ := DataW.trod_int Try.underlying3 q0
      obtain ⟨ka, kc, kl, e8, _, _⟩ := op_bools q1
      obtain ⟨st, e9, _, _⟩ := DataW.trod_int Try.underlying3 q2
      have e0 := (List.cons.inj e0).1
      have e1 := (List.cons.inj e1).1
      have e2 := (List.cons.inj e2).1
      have e3 := (List.cons.inj e3).1
      have e4 := (List.cons.inj e4).1
      have e5 := (List.cons.inj e5).1
      have e7 := (List.cons.inj e7).1
      have e9 := (List.cons.inj e9).1
      have h64 := i64_of_wf w4
      refine ⟨⟨kind, s2.data.toList, s3.data.toList, at_, l⟩, who, n, sn, st, da, ka, dc, kl.length, kc, ?_, hn, hr, by simp only; omega, by show s2.data.toList.length ≤ maxLen; rw [Array.length_toList]; exact l2, by show s3.data.toList.length ≤ maxLen; rw [Array.length_toList]; exact l3, ?_⟩
      · subst e0 e1 e2 e3 e4 e5 e6 e7 e8 e9
        have t2 : (⟨s2.data.toList.toArray⟩ : ByteArray) = s2 := by rw [Array.toArray_toList]
        have t3 : (⟨s3.data.toList.toArray⟩ : ByteArray) = s3 := by rw [Array.toArray_toList]
        show [Value.int .i64 kind, .int .i64 who, .string s2, .string s3, .int .i64 at_, .int .i64 n, .slice da l.length dc, .int .i64 sn, .slice ka kl.length kc, .int .i64 st] = [Value.int .i64 kind, .int .i64 who, .string ⟨s2.data.toList.toArray⟩, .string ⟨s3.data.toList.toArray⟩, .int .i64 at_, .int .i64 n, .slice da l.length dc, .int .i64 sn, .slice ka kl.length kc, .int .i64 st]
        rw [t2, t3]
      · rw [hxy]
        simp only [List.map_cons, List.map_nil, Rows.uptoBulk, Rows.uptoBulkAll]
        omega

theorem op_steps {fuel : Nat} {v : Value} {x : DataW H × List MemPlace} (h : DataW.trod enc Try.prog w base (fun _ => true) held fuel 42 [v] = some x) (hbk : Rows.uptoBulk x.1 ≤ 1048576) :
    ∃ a c, ∃ xs : List LStep, v = .slice a xs.length c ∧ StepsArg w a xs ∧ (∀ x ∈ xs, StepOkL x) ∧ xs.length + dataSum xs + 1 ≤ Rows.uptoBulk x.1 := by
  rcases open_slice Try.underlying42 h with ⟨hcs, rfl⟩ | ⟨a, len, cap, m, n, D, Pl, hcs, hb, hl, hm, hmm, rfl, hel⟩
  · simp only [List.cons.injEq, and_true] at hcs
    subst hcs
    exact ⟨none, 0, [], rfl, fun h => absurd rfl h, fun p hp => (by cases hp), by simp [Rows.uptoBulk, dataSum]⟩
  · simp only [List.cons.injEq, and_true] at hcs
    subst hcs
    simp only [if_true] at hmm
    subst hmm
    rw [c_step] at hel
    obtain ⟨B, hB⟩ := choose_lt (α := LStep) (p := fun i X => (∃ (who n sn st : Int) (da ka : Option Addr) (dc kl kc : Nat), (∀ j u, ([.int .i64 X.kind, .int .i64 who, .string ⟨X.name.toArray⟩, .string ⟨X.dst.toArray⟩, .int .i64 X.at_, .int .i64 n, .slice da X.data.length dc, .int .i64 sn, .slice ka kl kc, .int .i64 st] : List Value)[j]? = some u → w.cell? (a.add (i * 10 + j)) = some u) ∧ (da = none → dc = 0) ∧ RowAt w da (X.data.map bv)) ∧
        (-9223372036854775808 ≤ X.at_ ∧ X.at_ < 9223372036854775808) ∧ X.name.length ≤ maxLen ∧ X.dst.length ≤ maxLen ∧ X.data.length + 1 ≤ Rows.uptoBulk (D i)) (fun i hi => by
      obtain ⟨cs', h1, h2⟩ := hel i hi
      obtain ⟨_, hlen, hcell⟩ := World.cells?_some h1
      obtain ⟨X, who, n, sn, st, da, ka, dc, kl, kc, hcs, k1, k2, k3, k4, k5, k6⟩ := op_step h2
      refine ⟨X, ⟨who, n, sn, st, da, ka, dc, kl, kc, fun j u hu => ?_, k1, k2⟩, k3, k4, k5, k6⟩
      rw [← hcs] at hu
      have hj : j < 10 := by rw [← hlen]; exact (List.getElem?_eq_some_iff.1 hu).1
      have := hcell j hj
      rw [Go.Deep.add_add] at this
      rw [this, hu])
    have hs := bulk_sum (n := len) (D := D) (f := fun i => (B i).data.length) (fun i hi => (hB i (by omega)).2.2.2.2)
    have he := bulks.slice_elems ((List.range len).map D) ((List.range (m - len)).map fun j => D (len + j))
    have hds : dataSum ((List.range len).map B) = ((List.range len).map fun i => (B i).data.length).sum := by
      unfold dataSum
      rw [List.map_map]
      rfl
    refine ⟨some a, m, (List.range len).map B, by simp, fun hne => ?_, fun p hp => ?_, ?_⟩
    · have hn : 0 < len := by
        rcases Nat.eq_zero_or_pos len with h0 | h0
        · subst h0; simp at hne
        · exact h0
      obtain ⟨b, off, spot⟩ := a
      obtain ⟨⟨who, n0, sn, st, da, ka, dc, kl, kc, hc0, _⟩, _⟩ := hB 0 (by omega)
      have h0 := World.cell?_spot (hc0 0 _ rfl)
      have hspot : spot = none := by simpa [Addr.add] using h0
      subst hspot
      refine ⟨b, off, rfl, fun i d hd => ?_⟩
      rw [List.getElem?_map] at hd
      obtain ⟨j, hj, rfl⟩ := Option.map_eq_some_iff.1 hd
      obtain ⟨hjl, hij⟩ := List.getElem?_eq_some_iff.1 hj
      simp at hjl hij
      subst hij
      obtain ⟨⟨who, n1, sn, st, da, ka, dc, kl, kc, hc, k1, k2⟩, _⟩ := hB i (by omega)
      have mv : ∀ (j : Nat) (u : Value), ([.int .i64 (B i).kind, .int .i64 who, .string ⟨(B i).name.toArray⟩, .string ⟨(B i).dst.toArray⟩, .int .i64 (B i).at_, .int .i64 n1, .slice da (B i).data.length dc, .int .i64 sn, .slice ka kl kc, .int .i64 st] : List Value)[j]? = some u → w.cell? ⟨b, off + i * 10 + j, none⟩ = some u := fun j u hu => by
        have := hc j u hu
        rw [Go.WideShapes.add_plain, ← Nat.add_assoc] at this
        exact this
      exact ⟨who, n1, sn, st, da, ka, dc, kl, kc, mv 0 _ rfl, mv 1 _ rfl, mv 2 _ rfl, mv 3 _ rfl, mv 4 _ rfl, mv 5 _ rfl, mv 6 _ rfl, mv 7 _ rfl, mv 8 _ rfl, mv 9 _ rfl, k1, k2⟩
    · obtain ⟨i, hi, rfl⟩ := List.mem_map.1 hp
      obtain ⟨_, k3, k4, k5, k6⟩ := hB i (by have := List.mem_range.1 hi; omega)
      have hmem : Rows.uptoBulk (D i) ≤ Rows.uptoBulkAll ((List.range len).map D) := bulks.part_le (List.mem_map.2 ⟨i, hi, rfl⟩)
      simp only at hbk
      exact ⟨by omega, k3, k4, k5⟩
    · rw [hds]
      simp only [List.length_map, List.length_range]
      omega
end

end Go.Proofs.Ytgckcnnnblggbaa
