/- Disk: how the program's disk lies in memory; what a step may change. -/
import Derived.Test.YtgckcnnnblggbaaDkM
import Derived.Maps.OwnSet
import Derived.Maps.RangeWalk
namespace Go.Proofs.Ytgckcnnnblggbaa
open Go.RowKit Go.Maps

/-! ### what a step may change -/
/-- w' is w but for the blocks of O, and new ones -/
structure Chg (O : Nat → Prop) (w w' : World) : Prop where
  os : w'.os = w.os
  tape : w'.tape = w.tape
  output : w'.output = w.output
  size : w.heap.size ≤ w'.heap.size
  block : ∀ k, k < w.heap.size → ¬ O k → w'.heap[k]? = w.heap[k]?
theorem Chg.refl (O : Nat → Prop) (w : World) : Chg O w w := ⟨rfl, rfl, rfl, Nat.le_refl _, fun _ _ _ => rfl⟩
theorem Chg.of_below {O : Nat → Prop} {w w' : World} (h : Below w.heap.size w w') : Chg O w w' := ⟨h.os, h.tape, h.output, h.size, fun k hk _ => h.block k hk⟩
theorem Chg.below {O : Nat → Prop} {w w' : World} (h : Chg O w w') (hO : ∀ k, O k → w.heap.size ≤ k) : Below w.heap.size w w' := ⟨h.os, h.tape, h.output, h.size, fun k hk => h.block k hk (fun ho => by have := hO k ho; omega)⟩
theorem Chg.of_grown {O : Nat → Prop} {w w' : World} {row : Option Nat} (h : w.grownBy w' row) (hr : ∀ k, row = some k → k < w.heap.size → O k) : Chg O w w' :=
  ⟨h.os, h.tape, h.output, h.size, fun k hk hO => h.block k hk (fun e => hO (hr k e.symm hk))⟩
theorem Chg.trans {O O' : Nat → Prop} {a b c : World} (h : Chg O a b) (k : Chg O' b c) (hO : ∀ x, O' x → x < a.heap.size → O x) : Chg O a c :=
  ⟨k.os.trans h.os, k.tape.trans h.tape, k.output.trans h.output, Nat.le_trans h.size k.size, fun x hx hn => (k.block x (Nat.lt_of_lt_of_le hx h.size) (fun hx' => hn (hO x hx' hx))).trans (h.block x hx hn)⟩
theorem Chg.mono {O O' : Nat → Prop} {a b : World} (h : Chg O a b) (hO : ∀ x, O x → x < a.heap.size → O' x) : Chg O' a b := (Chg.refl O' a).trans h hO
theorem Chg.set {O : Nat → Prop} {w : World} {a : Addr} (v : Value) (h : O a.block) : Chg O w (w.setCell a v) :=
  ⟨rfl, rfl, rfl, by simp [World.setCell], fun k _ hk => by
    have hne : k ≠ a.block := fun e => hk (e ▸ h)
    simp [World.setCell, Array.getElem?_modify, Ne.symm hne]⟩
theorem Chg.alloc (O : Nat → Prop) (w : World) (o : Obj) : Chg O w (w.alloc o) := .of_grown (World.grownBy_alloc w o none) (by simp)
theorem Chg.drew {O : Nat → Prop} {w w' : World} (h : Chg O w w') : Chg O w w'.drew := ⟨h.os, h.tape, h.output, h.size, h.block⟩
theorem Chg.turned {O : Nat → Prop} {w w' : World} {b : Nat} (h : w.mapTurned w' b) (hb : O b) : Chg O w w' := .of_grown h.grown (fun k e _ => by cases e; exact hb)
theorem Chg.cell {O : Nat → Prop} {w w' : World} (h : Chg O w w') {a : Addr} {v : Value} (hc : w.cell? a = some v) (hO : ¬ O a.block) : w'.cell? a = some v :=
  (World.cell?_of_block (h.block a.block (cell_lt hc) hO)).trans hc
theorem heap_lt {w : World} {b : Nat} {o : Obj} (h : w.heap[b]? = some o) : b < w.heap.size := (Array.getElem?_eq_some_iff.1 h).1
theorem Chg.obj {O : Nat → Prop} {w w' : World} (h : Chg O w w') {b : Nat} {o : Obj} (hb : w.heap[b]? = some o) (hO : ¬ O b) : w'.heap[b]? = some o := (h.block b (heap_lt hb) hO).trans hb
theorem Chg.map {O : Nat → Prop} {w w' : World} (h : Chg O w w') {P : Program} {k : TypeId} {R : Value → Option (DataW Unit × List MemPlace)} {b n : Nat} {D : DataW Unit} (hm : w.ownsMap P k R b n D) (hO : ¬ O b) : w'.ownsMap P k R b n D := by
  obtain ⟨es, c, hb, r⟩ := hm
  exact ⟨es, c, h.obj hb hO, r⟩
theorem Chg.row {O : Nat → Prop} {w w' : World} (h : Chg O w w') {base : Nat} {e : TypeId} {size n : Nat} {v : Value} {xs : List Value} (hr : w.ownsRow base e size v n xs) (hO : ∀ k, v.ownBlock = some k → ¬ O k) : w'.ownsRow base e size v n xs := by
  obtain ⟨h1, h2⟩ := hr
  refine ⟨h1, h2.imp id ?_⟩
  rintro ⟨g, cap, cur, rfl, h3, h4, h5⟩
  exact ⟨g, cap, cur, rfl, h3, h.obj h4 (hO g rfl), h5⟩
theorem heap_set_cells {w : World} {p i : Nat} {cs : Array Value} {e : TypeId} {f : Nat × Nat} (v : Value) (h : w.heap[p]? = some (.cells cs e f)) : (w.setCell ⟨p, i, none⟩ v).heap[p]? = some (.cells (cs.setIfInBounds i v) e f) := by
  simp [World.setCell, Array.getElem?_modify, h]
theorem cell_of_heap {w : World} {p i : Nat} {cs : Array Value} {e : TypeId} {f : Nat × Nat} {v : Value} (h : w.heap[p]? = some (.cells cs e f)) (hv : cs[i]? = some v) : w.cell? ⟨p, i, none⟩ = some v := by simp [World.cell?, h, hv]
theorem frozen_of_heap {w : World} {p i : Nat} {cs : Array Value} {e : TypeId} (h : w.heap[p]? = some (.cells cs e (0, 0))) : w.frozen? ⟨p, i, none⟩ = false := by simp [World.frozen?, h]

/-! ### the disk in memory -/
/-- bytes that nobody writes: a slice in blocks of R -/
def BytesIn (w : World) (R : Nat → Prop) (v : Value) (l : List UInt8) : Prop :=
  ∃ a c, v = .slice a l.length c ∧ l.length ≤ c ∧ (a = none → c = 0) ∧ RowAt w a (l.map bv) ∧ (l ≠ [] → ∀ x, a = some x → R x.block) ∧ ∀ x, a = some x → x = ⟨x.block, 0, none⟩
/-- how a pointer to a file reads as an element of the files' map -/
def ptrElem : Value → Option (DataW Unit × List MemPlace)
  | .pointer (some ⟨b, 0, none⟩) => some (.lit (.int .i64 (b : Int)), [])
  | .pointer none => some (.nil, [])
  | _ => none
theorem ptrElem_mk (b : Nat) : ptrElem (.pointer (some ⟨b, 0, none⟩)) = some (.lit (.int .i64 (b : Int)), []) := rfl
theorem ptrElem_inv {v : Value} {b : Nat} {ps : List MemPlace} (h : ptrElem v = some (.lit (.int .i64 (b : Int)), ps)) : v = .pointer (some ⟨b, 0, none⟩) := by
  unfold ptrElem at h
  split at h
  · simp at h; rw [← Int.natCast_inj.1 h.1]
  · simp at h
  · cases h
/-- the files' map: numbers from 0 on, and the blocks -/
def fileE (p : Nat × Nat) : Lit × DataW Unit := (.int .i64 (p.2 : Int), .lit (.int .i64 (p.1 : Int)))
def filesD (fb : List Nat) : DataW Unit := .map (fb.zipIdx.map fileE)
def FileIn (w : World) (R : Nat → Prop) (b : Nat) (d : List UInt8 × List UInt8) : Prop :=
  ∃ e vd vs, w.heap[b]? = some (.cells #[vd, vs] e (0, 0)) ∧ BytesIn w R vd d.1 ∧ BytesIn w R vs d.2
def BoxIn (w : World) (R : Nat → Prop) (v x : Value) : Prop := ∃ b, v = .pointer (some ⟨b, 0, none⟩) ∧ R b ∧ w.cell? ⟨b, 0, none⟩ = some x
def StepIn (w : World) (R : Nat → Prop) (v : Value) : NStep → Prop
  | .create k n => ∃ x y, v = .func (.func 46) #[] #[x, y] ∧ BoxIn w R x (.int .i64 (n : Int)) ∧ BoxIn w R y (sv k)
  | .rename f t => ∃ x y, v = .func (.func 61) #[] #[x, y] ∧ BoxIn w R x (sv f) ∧ BoxIn w R y (sv t)
  | .remove k => ∃ x, v = .func (.func 41) #[] #[x] ∧ BoxIn w R x (sv k)
def LayIn (w : World) (R : Nat → Prop) (v : Value) (x : Wr) : Prop :=
  if x.cut then ∃ y, v = .func (.func 43) #[] #[y] ∧ BoxIn w R y (.int .i64 (x.place : Int))
  else ∃ y z u, v = .func (.func 38) #[] #[y, z] ∧ BoxIn w R y (.int .i64 (x.place : Int)) ∧ BoxIn w R z u ∧ BytesIn w R u x.data
/-- the four cells of a pending write -/
def WrIn (w : World) (R : Nat → Prop) (c : List Value) (x : Wr) : Prop := ∃ f, c = [.int .i64 (x.file : Int), .int .i64 (x.data.length : Int), .bool x.cut, f] ∧ LayIn w R f x

/-- the blocks that a disk writes -/
def ownL (p mf mn : Nat) (vs vw : Value) (fb : List Nat) : List Nat := p :: mf :: mn :: (vs.ownBlock.toList ++ (vw.ownBlock.toList ++ fb))

/-- THE PROGRAM's DISK s LIES AT p: its parts -/
structure DiskP (w : World) (p : Nat) (s : DSt) (R : Nat → Prop) (mf mn ms : Nat) (fb : List Nat) (vs vw : Value) (ss : List Value) (ws : List (List Value)) (e : TypeId) : Prop where
  cells : w.heap[p]? = some (.cells #[.int .i64 (s.room : Int), .map (some mf), .map (some mn), .map (some ms), vs, vw, .int .i64 (s.done : Int)] e (0, 0))
  filesM : w.ownsMap Try.prog 3 ptrElem mf fb.length (filesD fb)
  namesM : w.ownsMap Try.prog 9 (plainElem Try.prog 3) mn s.names.length (nameD s.names)
  sureM : w.ownsMap Try.prog 9 (plainElem Try.prog 3) ms s.sure.length (nameD s.sure)
  count : fb.length = s.files.length
  file : ∀ (i : Nat) b d, fb[i]? = some b → s.files[i]? = some d → FileIn w R b d
  stepsR : w.ownsRow 0 86 1 vs s.steps.length ss
  step : ∀ (i : Nat) v x, ss[i]? = some v → s.steps[i]? = some x → StepIn w R v x
  writesR : w.ownsRow 0 83 4 vw s.writes.length ws.flatten
  count4 : ws.length = s.writes.length
  write : ∀ (i : Nat) c x, ws[i]? = some c → s.writes[i]? = some x → WrIn w R c x
  apart : (ownL p mf mn vs vw fb).Nodup
  own : ∀ b ∈ ownL p mf mn vs vw fb, b < w.heap.size ∧ ¬ R b
  shared : ∀ b, R b → b < w.heap.size
  sureR : R ms
/-- THE PROGRAM's DISK s LIES AT p, writes the blocks own, and reads those of R, too -/
def DiskAt (w : World) (p : Nat) (s : DSt) (own : List Nat) (R : Nat → Prop) : Prop :=
  ∃ mf mn ms fb vs vw ss ws e, DiskP w p s R mf mn ms fb vs vw ss ws e ∧ own = ownL p mf mn vs vw fb

end Go.Proofs.Ytgckcnnnblggbaa
