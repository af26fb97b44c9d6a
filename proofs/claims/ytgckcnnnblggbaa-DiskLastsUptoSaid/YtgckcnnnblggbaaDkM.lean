/- Disk: the plain model, no program in sight. Names lead to file numbers; steps of the names; writes; what a stop leaves. -/
import Derived.Test.YtgckcnnnblggbaaDk1
import Derived.Maps.Ext
namespace Go.Proofs.Ytgckcnnnblggbaa
open Go.RowKit Go.Maps

/-- names, rising, and the numbers of the files to which they lead -/
abbrev NL := List (List UInt8 × Nat)
def nlFind (l : NL) (k : List UInt8) : Option Nat := (l.find? fun p => p.1 == k).map (·.2)
def nlDel (l : NL) (k : List UInt8) : NL := l.filter fun p => !(p.1 == k)
def nlIns (x : List UInt8 × Nat) : NL → NL
  | [] => [x]
  | y :: r => if bytesBefore x.1 y.1 then x :: y :: r else y :: nlIns x r
def nlPut (l : NL) (k : List UInt8) (n : Nat) : NL := nlIns (k, n) (nlDel l k)
def Rising (l : NL) : Prop := l.Pairwise (fun p q => bytesBefore p.1 q.1 = true)

/-- names as the datum of a map -/
def nameE (p : List UInt8 × Nat) : Lit × DataW Unit := (.string p.1, .lit (.int .i64 (p.2 : Int)))
def nameD (l : NL) : DataW Unit := .map (l.map nameE)

theorem same_str (a b : List UInt8) : (Lit.string a).sameKey (.string b) = (a == b) := rfl
theorem nameD_del (l : NL) (k : List UInt8) : (nameD l).del (.string k) = nameD (nlDel l k) := by
  unfold nameD DataW.del nlDel
  simp only [List.filter_map]
  rfl
theorem nameD_ins (x : List UInt8 × Nat) : ∀ l : NL, DataW.insert (nameE x) (l.map nameE) = (nlIns x l).map nameE
  | [] => rfl
  | y :: r => by
    simp only [List.map_cons, DataW.insert, nlIns]
    have e : (nameE x).1.before (nameE y).1 = bytesBefore x.1 y.1 := rfl
    rw [e]
    split
    · rfl
    · rw [nameD_ins x r]; rfl
theorem nameD_put (l : NL) (k : List UInt8) (n : Nat) : (nameD l).put (.string k) (.lit (.int .i64 (n : Int))) = nameD (nlPut l k n) := by
  have h := nameD_del l k
  unfold nameD DataW.del at h
  simp only [DataW.map.injEq] at h
  unfold nameD DataW.put nlPut
  simp only []
  rw [h]
  exact congrArg DataW.map (nameD_ins (k, n) (nlDel l k))
theorem nameD_has (l : NL) (k : List UInt8) : has (nameD l) (.string k) = (nlFind l k).isSome := by
  unfold nameD nlFind
  rw [has_eq]
  induction l with
  | nil => rfl
  | cons y r ih =>
    simp only [List.map_cons, List.any_cons, List.find?_cons]
    have e : (nameE y).1.sameKey (.string k) = (y.1 == k) := rfl
    rw [e, ih]
    cases y.1 == k <;> rfl
theorem nameD_at (l : NL) (k : List UInt8) (z : DataW Unit) : (nameD l).atKey (.string k) z = (nlFind l k).elim z (fun n => .lit (.int .i64 (n : Int))) := by
  unfold nameD nlFind DataW.atKey
  simp only []
  induction l with
  | nil => rfl
  | cons y r ih =>
    simp only [List.map_cons, List.find?_cons]
    have e : (nameE y).1.sameKey (.string k) = (y.1 == k) := rfl
    rw [e]
    cases y.1 == k
    · exact ih
    · rfl
theorem nameD_size (l : NL) : size (nameD l) = l.length := by simp [nameD, size_eq]
theorem nameD_inj {l m : NL} (h : nameD l = nameD m) : l = m := by
  unfold nameD at h
  simp only [DataW.map.injEq] at h
  induction l generalizing m with
  | nil => cases m <;> simp_all
  | cons x r ih =>
    cases m with
    | nil => simp at h
    | cons y s =>
      obtain ⟨x1, x2⟩ := x
      obtain ⟨y1, y2⟩ := y
      simp only [List.map_cons, List.cons.injEq, nameE, Prod.mk.injEq, Lit.string.injEq, DataW.lit.injEq, Lit.int.injEq, true_and] at h
      obtain ⟨⟨rfl, h2⟩, h3⟩ := h
      have : x2 = y2 := by omega
      subst this
      rw [ih h3]
theorem rising_of_canon {l : NL} (h : Canon (nameD l)) : Rising l := by
  obtain ⟨es, e, hp, _⟩ := h
  unfold nameD at e
  simp only [DataW.map.injEq] at e
  subst e
  exact List.pairwise_map.1 hp

/-! ### the disk -/
/-- a pending step of the names -/
inductive NStep where
  | create (name : List UInt8) (file : Nat)
  | rename (src dst : List UInt8)
  | remove (name : List UInt8)
def doStep (l : NL) : NStep → NL
  | .create k n => nlPut l k n
  | .rename f t => match nlFind l f with
    | some n => nlPut (nlDel l f) t n
    | none => l
  | .remove k => nlDel l k
/-- a pending write -/
structure Wr where
  file : Nat
  cut : Bool
  place : Nat
  data : List UInt8
/-- bytes behind a write of which the first n bytes are laid -/
def laid (b : List UInt8) (x : Wr) (n : Nat) : List UInt8 :=
  if x.cut then b.take x.place else if n = 0 then b else
    (b ++ List.replicate (x.place - b.length) 0).take x.place ++ x.data.take n ++ b.drop (x.place + n)
/-- a disk: its room; what stands and what lasts of each file; names; pending steps; pending writes; how many steps were done -/
structure DSt where
  room : Nat
  files : List (List UInt8 × List UInt8)
  names : NL
  sure : NL
  steps : List NStep
  writes : List Wr
  done : Nat
def DSt.stands (s : DSt) (n : Nat) : List UInt8 := (s.files.getD n ([], [])).1
def DSt.lasts (s : DSt) (n : Nat) : List UInt8 := (s.files.getD n ([], [])).2
def usedOf (s : DSt) (l : NL) : Nat := (l.map fun p => (s.stands p.2).length).sum
def DSt.used (s : DSt) : Nat := usedOf s s.names
def DSt.step (s : DSt) (x : NStep) : DSt := { s with names := doStep s.names x, steps := s.steps ++ [x], done := s.done + 1 }
def DSt.tick (s : DSt) : DSt := { s with done := s.done + 1 }
def DSt.setData (s : DSt) (n : Nat) (d : List UInt8) : DSt := { s with files := s.files.set n (d, s.lasts n) }
def DSt.write (s : DSt) (x : Wr) : DSt := { s with files := s.files.set x.file (laid (s.stands x.file) x x.data.length, s.lasts x.file), writes := s.writes ++ [x], done := s.done + 1 }

/-- Create -/
noncomputable def DSt.create (s : DSt) (k : List UInt8) : DSt × Nat :=
  if !nameOk k then (s.tick, 2) else if (nlFind s.names k).isSome then (s.tick, 8) else
    (({ s with files := s.files ++ [([], [])] } : DSt).step (.create k s.files.length), 0)
/-- Write -/
def DSt.put (s : DSt) (k : List UInt8) (at_ : Int) (b : List UInt8) : DSt × Nat :=
  match nlFind s.names k with
  | none => (s.tick, 7)
  | some f =>
    let had := (s.stands f).length
    if at_ < 0 ∨ (had : Int) < at_ then (s.tick, 2)
    else if had < at_.toNat + b.length ∧ s.room < s.used + (at_.toNat + b.length - had) then (s.tick, 5)
    else (s.write ⟨f, false, at_.toNat, b⟩, 0)
/-- Cut -/
def DSt.cut (s : DSt) (k : List UInt8) (size : Int) : DSt × Nat :=
  match nlFind s.names k with
  | none => (s.tick, 7)
  | some f => if size < 0 ∨ ((s.stands f).length : Int) < size then (s.tick, 2) else (s.write ⟨f, true, size.toNat, []⟩, 0)
/-- Sync -/
def DSt.sync (s : DSt) (k : List UInt8) : DSt × Nat :=
  match nlFind s.names k with
  | none => (s.tick, 7)
  | some f => ({ s with files := s.files.set f (s.stands f, s.stands f), writes := s.writes.filter (fun x => !(x.file == f)), done := s.done + 1 }, 0)
/-- SyncNames -/
def DSt.syncNames (s : DSt) : DSt × Nat := ({ s with sure := s.names, steps := [], done := s.done + 1 }, 0)
/-- Rename -/
noncomputable def DSt.rename (s : DSt) (k t : List UInt8) : DSt × Nat :=
  if !nameOk t then (s.tick, 2) else match nlFind s.names k with
  | none => (s.tick, 7)
  | some _ => (s.step (.rename k t), 0)
/-- Remove -/
def DSt.remove (s : DSt) (k : List UInt8) : DSt × Nat :=
  match nlFind s.names k with
  | none => (s.tick, 7)
  | some _ => (s.step (.remove k), 0)
/-- Read -/
def DSt.read (s : DSt) (k : List UInt8) (at_ n : Int) : List UInt8 × Nat :=
  match nlFind s.names k with
  | none => ([], 7)
  | some f => if at_ < 0 ∨ n < 0 then ([], 2) else if ((s.stands f).length : Int) < at_ then ([], 4)
    else (((s.stands f).drop at_.toNat).take n.toNat, 0)
/-- Size -/
def DSt.size (s : DSt) (k : List UInt8) : Nat × Nat :=
  match nlFind s.names k with
  | none => (0, 7)
  | some f => ((s.stands f).length, 0)
/-- Files -/
def DSt.all (s : DSt) : List (List UInt8 × List UInt8) := s.names.map fun p => (p.1, s.stands p.2)
/-- a disk of files that last -/
def DSt.ofFiles (room : Nat) (l : List (List UInt8 × List UInt8)) : DSt :=
  let ns := l.zipIdx.map fun p => (p.1.1, p.2)
  ⟨room, l.map (fun p => (p.2, p.2)), ns, ns, [], [], 0⟩

/-- names behind a stop -/
def stopNames (s : DSt) (names : Int) : NL := (s.steps.take names.toNat).foldl doStep s.sure
def leadsTo (l : NL) (f : Nat) : Bool := l.any fun p => p.2 == f
/-- is the k-th write kept? -/
def keptAt (s : DSt) (l : NL) (keep : List Bool) (k : Nat) : Bool :=
  keep.getD k false && match s.writes[k]? with
    | some x => leadsTo l x.file
    | none => false
/-- the number of the last kept write that is no cut; none: -/
def lastKept (s : DSt) (l : NL) (keep : List Bool) : Nat → Option Nat
  | 0 => none
  | k + 1 => if keptAt s l keep k && (match s.writes[k]? with | some x => !x.cut | none => false) then some k else lastKept s l keep k
/-- how much of the k-th write is laid -/
def laidOf (last : Option Nat) (torn : Int) (k : Nat) (x : Wr) : Nat :=
  if last = some k ∧ 0 ≤ torn ∧ torn < x.data.length then torn.toNat else x.data.length
/-- a file behind the first k writes of a stop -/
def stopFile (s : DSt) (keep : List Bool) (last : Option Nat) (torn : Int) (f : Nat) : Nat → List UInt8
  | 0 => s.lasts f
  | k + 1 =>
    let b := stopFile s keep last torn f k
    match s.writes[k]? with
    | some x => if keep.getD k false && x.file == f then laid b x (laidOf last torn k x) else b
    | none => b
/-- Stop -/
def DSt.stop (s : DSt) (names : Int) (keep : List Bool) (torn : Int) : DSt :=
  let l := stopNames s names
  let last := lastKept s l keep s.writes.length
  DSt.ofFiles s.room (l.map fun p => (p.1, stopFile s keep last torn p.2 s.writes.length))

/-- no file is longer than this -/
def maxFile : Nat := 1099511627776
/-- no list is longer than this -/
def maxList : Nat := 4194304
/-- a step of the names that is well made -/
def StepOk (F : Nat) : NStep → Prop
  | .create k n => n < F ∧ NameOk k
  | .rename f t => NameOk f ∧ NameOk t
  | .remove k => NameOk k
/-- what holds of a disk at all times -/
structure DSt.Ok (s : DSt) (N : Nat) : Prop where
  room : s.room ≤ maxFile
  names : ∀ p ∈ s.names, p.2 < s.files.length ∧ NameOk p.1
  sure : ∀ p ∈ s.sure, p.2 < s.files.length ∧ NameOk p.1
  rising : Rising s.names
  risingSure : Rising s.sure
  steps : ∀ x ∈ s.steps, StepOk s.files.length x
  writes : ∀ x ∈ s.writes, x.file < s.files.length ∧ x.place + x.data.length ≤ maxFile ∧ (x.cut = true → x.data = [])
  files : ∀ p ∈ s.files, p.1.length ≤ maxFile ∧ p.2.length ≤ maxFile
  manyFiles : s.files.length ≤ N
  manySteps : s.steps.length ≤ N
  manyWrites : s.writes.length ≤ N
  manyNames : s.names.length ≤ N
  manySure : s.sure.length ≤ N
  done : s.done ≤ N

end Go.Proofs.Ytgckcnnnblggbaa
