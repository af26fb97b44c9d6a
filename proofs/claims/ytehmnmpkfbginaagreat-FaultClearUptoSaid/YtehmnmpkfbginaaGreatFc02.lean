/- Texts of this claim, one behind the other: DkM, DkR. -/
import Derived.Test.YtehmnmpkfbginaaGreatFc01
import Derived.Maps.Ext
import Derived.Maps.OwnSet
import Derived.Maps.RangeWalk
set_option linter.unusedSimpArgs false
set_option linter.unusedVariables false
/- Disk: the plain model, no program in sight. Names lead to file numbers; steps of the names; writes; what a stop leaves. -/
namespace Go.Proofs.YtehmnmpkfbginaaGreat
open Go.RowKit Go.Maps

/-- names, rising, and the numbers of the files to which they lead -/
abbrev NL := List (List UInt8 × Nat)
def nlFind (l : NL) (k : List UInt8) : Option Nat := (l.find? fun p => p.1 == k).map (·.2)
def nlDel (l : NL) (k : List UInt8) : NL := l.filter fun p => !(p.1 == k)
def nlIns (x : List UInt8 × Nat) : NL → NL
  | [] => [x]
  | y :: r => if bytesBefore x.1 y.1 then x :: y :: r else y :: nlIns x r
def nlPut (l : NL) (k : List UInt8) (n : Nat) : NL := nlIns (k, n) (nlDel l k)
def Rising (l : NL) : Prop := l.Pairwise (fun p q => bytesBefore p.1 q.1 = true)

/-- names as the datum of a map -/
def nameE (p : List UInt8 × Nat) : Lit × DataW Unit := (.string p.1, .lit (.int .i64 (p.2 : Int)))
def nameD (l : NL) : DataW Unit := .map (l.map nameE)

theorem same_str (a b : List UInt8) : (Lit.string a).sameKey (.string b) = (a == b) := rfl
theorem nameD_del (l : NL) (k : List UInt8) : (nameD l).del (.string k) = nameD (nlDel l k) := by
  unfold nameD DataW.del nlDel
  simp only [List.filter_map]
  rfl
theorem nameD_ins (x : List UInt8 × Nat) : ∀ l : NL, DataW.insert (nameE x) (l.map nameE) = (nlIns x l).map nameE
  | [] => rfl
  | y :: r => by
    simp only [List.map_cons, DataW.insert, nlIns]
    have e : (nameE x).1.before (nameE y).1 = bytesBefore x.1 y.1 := rfl
    rw [e]
    split
    · rfl
    · rw [nameD_ins x r]; rfl
theorem nameD_put (l : NL) (k : List UInt8) (n : Nat) : (nameD l).put (.string k) (.lit (.int .i64 (n : Int))) = nameD (nlPut l k n) := by
  have h := nameD_del l k
  unfold nameD DataW.del at h
  simp only [DataW.map.injEq] at h
  unfold nameD DataW.put nlPut
  simp only []
  rw [h]
  exact congrArg DataW.map (nameD_ins (k, n) (nlDel l k))
theorem nameD_has (l : NL) (k : List UInt8) : has (nameD l) (.string k) = (nlFind l k).isSome := by
  unfold nameD nlFind
  rw [has_eq]
  induction l with
  | nil => rfl
  | cons y r ih =>
    simp only [List.map_cons, List.any_cons, List.find?_cons]
    have e : (nameE y).1.sameKey (.string k) = (y.1 == k) := rfl
    rw [e, ih]
    cases y.1 == k <;> rfl
theorem nameD_at (l : NL) (k : List UInt8) (z : DataW Unit) : (nameD l).atKey (.string k) z = (nlFind l k).elim z (fun n => .lit (.int .i64 (n : Int))) := by
  unfold nameD nlFind DataW.atKey
  simp only []
  induction l with
  | nil => rfl
  | cons y r ih =>
    simp only [List.map_cons, List.find?_cons]
    have e : (nameE y).1.sameKey (.string k) = (y.1 == k) := rfl
    rw [e]
    cases y.1 == k
    · exact ih
    · rfl
theorem nameD_size (l : NL) : size (nameD l) = l.length := by simp [nameD, size_eq]
theorem nameD_inj {l m : NL} (h : nameD l = nameD m) : l = m := by
  unfold nameD at h
  simp only [DataW.map.injEq] at h
  induction l generalizing m with
  | nil => cases m <;> simp_all
  | cons x r ih =>
    cases m with
    | nil => simp at h
    | cons y s =>
      obtain ⟨x1, x2⟩ := x
      obtain ⟨y1, y2⟩ := y
      simp only [List.map_cons, List.cons.injEq, nameE, Prod.mk.injEq, Lit.string.injEq, DataW.lit.injEq, Lit.int.injEq, true_and] at h
      obtain ⟨⟨rfl, h2⟩, h3⟩ := h
      have : x2 = y2 := by omega
      subst this
      rw [ih h3]
theorem rising_of_canon {l : NL} (h : Canon (nameD l)) : Rising l := by
  obtain ⟨es, e, hp, _⟩ := h
  unfold nameD at e
  simp only [DataW.map.injEq] at e
  subst e
  exact List.pairwise_map.1 hp

/-! ### the disk -/
/-- a pending step of the names -/
inductive NStep where
  | create (name : List UInt8) (file : Nat)
  | rename (src dst : List UInt8)
  | remove (name : List UInt8)
def doStep (l : NL) : NStep → NL
  | .create k n => nlPut l k n
  | .rename f t => match nlFind l f with
    | some n => nlPut (nlDel l f) t n
    | none => l
  | .remove k => nlDel l k
/-- a pending write -/
structure Wr where
  file : Nat
  cut : Bool
  place : Nat
  data : List UInt8
/-- bytes behind a write of which the first n bytes are laid -/
def laid (b : List UInt8) (x : Wr) (n : Nat) : List UInt8 :=
  if x.cut then b.take x.place else if n = 0 then b else
    (b ++ List.replicate (x.place - b.length) 0).take x.place ++ x.data.take n ++ b.drop (x.place + n)
/-- a disk: its room; what stands and what lasts of each file; names; pending steps; pending writes; how many steps were done -/
structure DSt where
  room : Nat
  files : List (List UInt8 × List UInt8)
  names : NL
  sure : NL
  steps : List NStep
  writes : List Wr
  done : Nat
def DSt.stands (s : DSt) (n : Nat) : List UInt8 := (s.files.getD n ([], [])).1
def DSt.lasts (s : DSt) (n : Nat) : List UInt8 := (s.files.getD n ([], [])).2
def usedOf (s : DSt) (l : NL) : Nat := (l.map fun p => (s.stands p.2).length).sum
def DSt.used (s : DSt) : Nat := usedOf s s.names
def DSt.step (s : DSt) (x : NStep) : DSt := { s with names := doStep s.names x, steps := s.steps ++ [x], done := s.done + 1 }
def DSt.tick (s : DSt) : DSt := { s with done := s.done + 1 }
def DSt.setData (s : DSt) (n : Nat) (d : List UInt8) : DSt := { s with files := s.files.set n (d, s.lasts n) }
def DSt.write (s : DSt) (x : Wr) : DSt := { s with files := s.files.set x.file (laid (s.stands x.file) x x.data.length, s.lasts x.file), writes := s.writes ++ [x], done := s.done + 1 }

/-- Create -/
noncomputable def DSt.create (s : DSt) (k : List UInt8) : DSt × Nat :=
  if !nameOk k then (s.tick, 2) else if (nlFind s.names k).isSome then (s.tick, 8) else
    (({ s with files := s.files ++ [([], [])] } : DSt).step (.create k s.files.length), 0)
/-- Write -/
def DSt.put (s : DSt) (k : List UInt8) (at_ : Int) (b : List UInt8) : DSt × Nat :=
  match nlFind s.names k with
  | none => (s.tick, 7)
  | some f =>
    let had := (s.stands f).length
    if at_ < 0 ∨ (had : Int) < at_ then (s.tick, 2)
    else if had < at_.toNat + b.length ∧ s.room < s.used + (at_.toNat + b.length - had) then (s.tick, 5)
    else (s.write ⟨f, false, at_.toNat, b⟩, 0)
/-- Cut -/
def DSt.cut (s : DSt) (k : List UInt8) (size : Int) : DSt × Nat :=
  match nlFind s.names k with
  | none => (s.tick, 7)
  | some f => if size < 0 ∨ ((s.stands f).length : Int) < size then (s.tick, 2) else (s.write ⟨f, true, size.toNat, []⟩, 0)
/-- Sync -/
def DSt.sync (s : DSt) (k : List UInt8) : DSt × Nat :=
  match nlFind s.names k with
  | none => (s.tick, 7)
  | some f => ({ s with files := s.files.set f (s.stands f, s.stands f), writes := s.writes.filter (fun x => !(x.file == f)), done := s.done + 1 }, 0)
/-- SyncNames -/
def DSt.syncNames (s : DSt) : DSt × Nat := ({ s with sure := s.names, steps := [], done := s.done + 1 }, 0)
/-- Rename -/
noncomputable def DSt.rename (s : DSt) (k t : List UInt8) : DSt × Nat :=
  if !nameOk t then (s.tick, 2) else match nlFind s.names k with
  | none => (s.tick, 7)
  | some _ => (s.step (.rename k t), 0)
/-- Remove -/
def DSt.remove (s : DSt) (k : List UInt8) : DSt × Nat :=
  match nlFind s.names k with
  | none => (s.tick, 7)
  | some _ => (s.step (.remove k), 0)
/-- Read -/
def DSt.read (s : DSt) (k : List UInt8) (at_ n : Int) : List UInt8 × Nat :=
  match nlFind s.names k with
  | none => ([], 7)
  | some f => if at_ < 0 ∨ n < 0 then ([], 2) else if ((s.stands f).length : Int) < at_ then ([], 4)
    else (((s.stands f).drop at_.toNat).take n.toNat, 0)
/-- Size -/
def DSt.size (s : DSt) (k : List UInt8) : Nat × Nat :=
  match nlFind s.names k with
  | none => (0, 7)
  | some f => ((s.stands f).length, 0)
/-- Files -/
def DSt.all (s : DSt) : List (List UInt8 × List UInt8) := s.names.map fun p => (p.1, s.stands p.2)
/-- a disk of files that last -/
def DSt.ofFiles (room : Nat) (l : List (List UInt8 × List UInt8)) : DSt :=
  let ns := l.zipIdx.map fun p => (p.1.1, p.2)
  ⟨room, l.map (fun p => (p.2, p.2)), ns, ns, [], [], 0⟩

/-- names behind a stop -/
def stopNames (s : DSt) (names : Int) : NL := (s.steps.take names.toNat).foldl doStep s.sure
def leadsTo (l : NL) (f : Nat) : Bool := l.any fun p => p.2 == f
/-- is the k-th write kept? -/
def keptAt (s : DSt) (l : NL) (keep : List Bool) (k : Nat) : Bool :=
  keep.getD k false && match s.writes[k]? with
    | some x => leadsTo l x.file
    | none => false
/-- the number of the last kept write that is no cut; none: -/
def lastKept (s : DSt) (l : NL) (keep : List Bool) : Nat → Option Nat
  | 0 => none
  | k + 1 => if keptAt s l keep k && (match s.writes[k]? with | some x => !x.cut | none => false) then some k else lastKept s l keep k
/-- how much of the k-th write is laid -/
def laidOf (last : Option Nat) (torn : Int) (k : Nat) (x : Wr) : Nat :=
  if last = some k ∧ 0 ≤ torn ∧ torn < x.data.length then torn.toNat else x.data.length
/-- a file behind the first k writes of a stop -/
def stopFile (s : DSt) (keep : List Bool) (last : Option Nat) (torn : Int) (f : Nat) : Nat → List UInt8
  | 0 => s.lasts f
  | k + 1 =>
    let b := stopFile s keep last torn f k
    match s.writes[k]? with
    | some x => if keep.getD k false && x.file == f then laid b x (laidOf last torn k x) else b
    | none => b
/-- Stop -/
def DSt.stop (s : DSt) (names : Int) (keep : List Bool) (torn : Int) : DSt :=
  let l := stopNames s names
  let last := lastKept s l keep s.writes.length
  DSt.ofFiles s.room (l.map fun p => (p.1, stopFile s keep last torn p.2 s.writes.length))

/-- no file is longer than this -/
def maxFile : Nat := 1099511627776
/-- no list is longer than this -/
def maxList : Nat := 4194304
/-- a step of the names that is well made -/
def StepOk (F : Nat) : NStep → Prop
  | .create k n => n < F ∧ NameOk k
  | .rename f t => NameOk f ∧ NameOk t
  | .remove k => NameOk k
/-- what holds of a disk at all times -/
structure DSt.Ok (s : DSt) (N : Nat) : Prop where
  room : s.room ≤ maxFile
  names : ∀ p ∈ s.names, p.2 < s.files.length ∧ NameOk p.1
  sure : ∀ p ∈ s.sure, p.2 < s.files.length ∧ NameOk p.1
  rising : Rising s.names
  risingSure : Rising s.sure
  steps : ∀ x ∈ s.steps, StepOk s.files.length x
  writes : ∀ x ∈ s.writes, x.file < s.files.length ∧ x.place + x.data.length ≤ maxFile ∧ (x.cut = true → x.data = [])
  files : ∀ p ∈ s.files, p.1.length ≤ maxFile ∧ p.2.length ≤ maxFile
  manyFiles : s.files.length ≤ N
  manySteps : s.steps.length ≤ N
  manyWrites : s.writes.length ≤ N
  manyNames : s.names.length ≤ N
  manySure : s.sure.length ≤ N
  done : s.done ≤ N

end Go.Proofs.YtehmnmpkfbginaaGreat
/- Disk: how the program's disk lies in memory; what a step may change. -/
namespace Go.Proofs.YtehmnmpkfbginaaGreat
open Go.RowKit Go.Maps

/-! ### what a step may change -/
/-- w' is w but for the blocks of O, and new ones -/
structure Chg (O : Nat → Prop) (w w' : World) : Prop where
  os : w'.os = w.os
  tape : w'.tape = w.tape
  output : w'.output = w.output
  size : w.heap.size ≤ w'.heap.size
  block : ∀ k, k < w.heap.size → ¬ O k → w'.heap[k]? = w.heap[k]?
theorem Chg.refl (O : Nat → Prop) (w : World) : Chg O w w := ⟨rfl, rfl, rfl, Nat.le_refl _, fun _ _ _ => rfl⟩
theorem Chg.of_below {O : Nat → Prop} {w w' : World} (h : Below w.heap.size w w') : Chg O w w' := ⟨h.os, h.tape, h.output, h.size, fun k hk _ => h.block k hk⟩
theorem Chg.below {O : Nat → Prop} {w w' : World} (h : Chg O w w') (hO : ∀ k, O k → w.heap.size ≤ k) : Below w.heap.size w w' := ⟨h.os, h.tape, h.output, h.size, fun k hk => h.block k hk (fun ho => by have := hO k ho; omega)⟩
theorem Chg.of_grown {O : Nat → Prop} {w w' : World} {row : Option Nat} (h : w.grownBy w' row) (hr : ∀ k, row = some k → k < w.heap.size → O k) : Chg O w w' :=
  ⟨h.os, h.tape, h.output, h.size, fun k hk hO => h.block k hk (fun e => hO (hr k e.symm hk))⟩
theorem Chg.trans {O O' : Nat → Prop} {a b c : World} (h : Chg O a b) (k : Chg O' b c) (hO : ∀ x, O' x → x < a.heap.size → O x) : Chg O a c :=
  ⟨k.os.trans h.os, k.tape.trans h.tape, k.output.trans h.output, Nat.le_trans h.size k.size, fun x hx hn => (k.block x (Nat.lt_of_lt_of_le hx h.size) (fun hx' => hn (hO x hx' hx))).trans (h.block x hx hn)⟩
theorem Chg.mono {O O' : Nat → Prop} {a b : World} (h : Chg O a b) (hO : ∀ x, O x → x < a.heap.size → O' x) : Chg O' a b := (Chg.refl O' a).trans h hO
theorem Chg.set {O : Nat → Prop} {w : World} {a : Addr} (v : Value) (h : O a.block) : Chg O w (w.setCell a v) :=
  ⟨rfl, rfl, rfl, by simp [World.setCell], fun k _ hk => by
    have hne : k ≠ a.block := fun e => hk (e ▸ h)
    simp [World.setCell, Array.getElem?_modify, Ne.symm hne]⟩
theorem Chg.alloc (O : Nat → Prop) (w : World) (o : Obj) : Chg O w (w.alloc o) := .of_grown (World.grownBy_alloc w o none) (by simp)
theorem Chg.drew {O : Nat → Prop} {w w' : World} (h : Chg O w w') : Chg O w w'.drew := ⟨h.os, h.tape, h.output, h.size, h.block⟩
theorem Chg.turned {O : Nat → Prop} {w w' : World} {b : Nat} (h : w.mapTurned w' b) (hb : O b) : Chg O w w' := .of_grown h.grown (fun k e _ => by cases e; exact hb)
theorem Chg.cell {O : Nat → Prop} {w w' : World} (h : Chg O w w') {a : Addr} {v : Value} (hc : w.cell? a = some v) (hO : ¬ O a.block) : w'.cell? a = some v :=
  (World.cell?_of_block (h.block a.block (cell_lt hc) hO)).trans hc
theorem heap_lt {w : World} {b : Nat} {o : Obj} (h : w.heap[b]? = some o) : b < w.heap.size := (Array.getElem?_eq_some_iff.1 h).1
theorem Chg.obj {O : Nat → Prop} {w w' : World} (h : Chg O w w') {b : Nat} {o : Obj} (hb : w.heap[b]? = some o) (hO : ¬ O b) : w'.heap[b]? = some o := (h.block b (heap_lt hb) hO).trans hb
theorem Chg.map {O : Nat → Prop} {w w' : World} (h : Chg O w w') {P : Program} {k : TypeId} {R : Value → Option (DataW Unit × List MemPlace)} {b n : Nat} {D : DataW Unit} (hm : w.ownsMap P k R b n D) (hO : ¬ O b) : w'.ownsMap P k R b n D := by
  obtain ⟨es, c, hb, r⟩ := hm
  exact ⟨es, c, h.obj hb hO, r⟩
theorem Chg.row {O : Nat → Prop} {w w' : World} (h : Chg O w w') {base : Nat} {e : TypeId} {size n : Nat} {v : Value} {xs : List Value} (hr : w.ownsRow base e size v n xs) (hO : ∀ k, v.ownBlock = some k → ¬ O k) : w'.ownsRow base e size v n xs := by
  obtain ⟨h1, h2⟩ := hr
  refine ⟨h1, h2.imp id ?_⟩
  rintro ⟨g, cap, cur, rfl, h3, h4, h5⟩
  exact ⟨g, cap, cur, rfl, h3, h.obj h4 (hO g rfl), h5⟩
theorem heap_set_cells {w : World} {p i : Nat} {cs : Array Value} {e : TypeId} {f : Nat × Nat} (v : Value) (h : w.heap[p]? = some (.cells cs e f)) : (w.setCell ⟨p, i, none⟩ v).heap[p]? = some (.cells (cs.setIfInBounds i v) e f) := by
  simp [World.setCell, Array.getElem?_modify, h]
theorem cell_of_heap {w : World} {p i : Nat} {cs : Array Value} {e : TypeId} {f : Nat × Nat} {v : Value} (h : w.heap[p]? = some (.cells cs e f)) (hv : cs[i]? = some v) : w.cell? ⟨p, i, none⟩ = some v := by simp [World.cell?, h, hv]
theorem frozen_of_heap {w : World} {p i : Nat} {cs : Array Value} {e : TypeId} (h : w.heap[p]? = some (.cells cs e (0, 0))) : w.frozen? ⟨p, i, none⟩ = false := by simp [World.frozen?, h]

/-! ### the disk in memory -/
/-- bytes that nobody writes: a slice in blocks of R -/
def BytesIn (w : World) (R : Nat → Prop) (v : Value) (l : List UInt8) : Prop :=
  ∃ a c, v = .slice a l.length c ∧ l.length ≤ c ∧ (a = none → c = 0) ∧ RowAt w a (l.map bv) ∧ (∀ x, a = some x → R x.block) ∧ (∀ x, a = some x → x = ⟨x.block, 0, none⟩) ∧ w.ownsRow 0 5 1 (.slice a l.length c) l.length (l.map bv)
/-- how a pointer to a file reads as an element of the files' map -/
def ptrElem : Value → Option (DataW Unit × List MemPlace)
  | .pointer (some ⟨b, 0, none⟩) => some (.lit (.int .i64 (b : Int)), [])
  | .pointer none => some (.nil, [])
  | _ => none
theorem ptrElem_mk (b : Nat) : ptrElem (.pointer (some ⟨b, 0, none⟩)) = some (.lit (.int .i64 (b : Int)), []) := rfl
theorem ptrElem_inv {v : Value} {b : Nat} {ps : List MemPlace} (h : ptrElem v = some (.lit (.int .i64 (b : Int)), ps)) : v = .pointer (some ⟨b, 0, none⟩) := by
  unfold ptrElem at h
  split at h
  · simp at h; rw [← Int.natCast_inj.1 h.1]
  · simp at h
  · cases h
/-- the files' map: numbers from 0 on, and the blocks -/
def fileE (p : Nat × Nat) : Lit × DataW Unit := (.int .i64 (p.2 : Int), .lit (.int .i64 (p.1 : Int)))
def filesD (fb : List Nat) : DataW Unit := .map (fb.zipIdx.map fileE)
def FileIn (w : World) (R : Nat → Prop) (b : Nat) (d : List UInt8 × List UInt8) : Prop :=
  ∃ e vd vs, w.heap[b]? = some (.cells #[vd, vs] e (0, 0)) ∧ BytesIn w R vd d.1 ∧ BytesIn w R vs d.2
def BoxIn (w : World) (R : Nat → Prop) (v x : Value) : Prop := ∃ b, v = .pointer (some ⟨b, 0, none⟩) ∧ R b ∧ w.cell? ⟨b, 0, none⟩ = some x
def StepIn (w : World) (R : Nat → Prop) (v : Value) : NStep → Prop
  | .create k n => ∃ x y, v = .func (.func 104) #[] #[x, y] ∧ BoxIn w R x (.int .i64 (n : Int)) ∧ BoxIn w R y (sv k)
  | .rename f t => ∃ x y, v = .func (.func 114) #[] #[x, y] ∧ BoxIn w R x (sv f) ∧ BoxIn w R y (sv t)
  | .remove k => ∃ x, v = .func (.func 112) #[] #[x] ∧ BoxIn w R x (sv k)
def LayIn (w : World) (R : Nat → Prop) (v : Value) (x : Wr) : Prop :=
  if x.cut then ∃ y, v = .func (.func 108) #[] #[y] ∧ BoxIn w R y (.int .i64 (x.place : Int))
  else ∃ y z u, v = .func (.func 119) #[] #[y, z] ∧ BoxIn w R y (.int .i64 (x.place : Int)) ∧ BoxIn w R z u ∧ BytesIn w R u x.data
/-- the four cells of a pending write -/
def WrIn (w : World) (R : Nat → Prop) (c : List Value) (x : Wr) : Prop := ∃ f, c = [.int .i64 (x.file : Int), .int .i64 (x.data.length : Int), .bool x.cut, f] ∧ LayIn w R f x

/-- the blocks that a disk writes -/
def ownL (p mf mn : Nat) (vs vw : Value) (fb : List Nat) : List Nat := p :: mf :: mn :: (vs.ownBlock.toList ++ (vw.ownBlock.toList ++ fb))

/-- THE PROGRAM's DISK s LIES AT p: its parts -/
structure DiskP (w : World) (p : Nat) (s : DSt) (R : Nat → Prop) (mf mn ms : Nat) (fb : List Nat) (vs vw : Value) (ss : List Value) (ws : List (List Value)) (e : TypeId) : Prop where
  cells : w.heap[p]? = some (.cells #[.int .i64 (s.room : Int), .map (some mf), .map (some mn), .map (some ms), vs, vw, .int .i64 (s.done : Int)] e (0, 0))
  filesM : w.ownsMap Tryz.prog 3 ptrElem mf fb.length (filesD fb)
  namesM : w.ownsMap Tryz.prog 9 (plainElem Tryz.prog 3) mn s.names.length (nameD s.names)
  sureM : w.ownsMap Tryz.prog 9 (plainElem Tryz.prog 3) ms s.sure.length (nameD s.sure)
  count : fb.length = s.files.length
  file : ∀ (i : Nat) b d, fb[i]? = some b → s.files[i]? = some d → FileIn w R b d
  stepsR : w.ownsRow 0 93 1 vs s.steps.length ss
  step : ∀ (i : Nat) v x, ss[i]? = some v → s.steps[i]? = some x → StepIn w R v x
  writesR : w.ownsRow 0 97 4 vw s.writes.length ws.flatten
  count4 : ws.length = s.writes.length
  write : ∀ (i : Nat) c x, ws[i]? = some c → s.writes[i]? = some x → WrIn w R c x
  apart : (ownL p mf mn vs vw fb).Nodup
  own : ∀ b ∈ ownL p mf mn vs vw fb, b < w.heap.size ∧ ¬ R b
  shared : ∀ b, R b → b < w.heap.size
  sureR : R ms
/-- THE PROGRAM's DISK s LIES AT p, writes the blocks own, and reads those of R, too -/
def DiskAt (w : World) (p : Nat) (s : DSt) (own : List Nat) (R : Nat → Prop) : Prop :=
  ∃ mf mn ms fb vs vw ss ws e, DiskP w p s R mf mn ms fb vs vw ss ws e ∧ own = ownL p mf mn vs vw fb

end Go.Proofs.YtehmnmpkfbginaaGreat
