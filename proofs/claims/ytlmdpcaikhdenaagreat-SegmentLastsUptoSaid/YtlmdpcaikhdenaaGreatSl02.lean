/- Texts of this claim, one behind the other: DkR, Dk2, Dk3, Dk4, Dk5. -/
import Derived.Test.YtlmdpcaikhdenaaGreatSl01
import Derived.Maps.OwnSet
import Derived.Maps.RangeWalk
set_option linter.unusedSimpArgs false
set_option linter.unusedVariables false
/- Disk: how the program's disk lies in memory; what a step may change. -/
namespace Go.Proofs.YtlmdpcaikhdenaaGreat
open Go.RowKit Go.Maps

/-! ### what a step may change -/
/-- w' is w but for the blocks of O, and new ones -/
structure Chg (O : Nat → Prop) (w w' : World) : Prop where
  os : w'.os = w.os
  tape : w'.tape = w.tape
  output : w'.output = w.output
  size : w.heap.size ≤ w'.heap.size
  block : ∀ k, k < w.heap.size → ¬ O k → w'.heap[k]? = w.heap[k]?
theorem Chg.refl (O : Nat → Prop) (w : World) : Chg O w w := ⟨rfl, rfl, rfl, Nat.le_refl _, fun _ _ _ => rfl⟩
theorem Chg.of_below {O : Nat → Prop} {w w' : World} (h : Below w.heap.size w w') : Chg O w w' := ⟨h.os, h.tape, h.output, h.size, fun k hk _ => h.block k hk⟩
theorem Chg.below {O : Nat → Prop} {w w' : World} (h : Chg O w w') (hO : ∀ k, O k → w.heap.size ≤ k) : Below w.heap.size w w' := ⟨h.os, h.tape, h.output, h.size, fun k hk => h.block k hk (fun ho => by have := hO k ho; omega)⟩
theorem Chg.of_grown {O : Nat → Prop} {w w' : World} {row : Option Nat} (h : w.grownBy w' row) (hr : ∀ k, row = some k → k < w.heap.size → O k) : Chg O w w' :=
  ⟨h.os, h.tape, h.output, h.size, fun k hk hO => h.block k hk (fun e => hO (hr k e.symm hk))⟩
theorem Chg.trans {O O' : Nat → Prop} {a b c : World} (h : Chg O a b) (k : Chg O' b c) (hO : ∀ x, O' x → x < a.heap.size → O x) : Chg O a c :=
  ⟨k.os.trans h.os, k.tape.trans h.tape, k.output.trans h.output, Nat.le_trans h.size k.size, fun x hx hn => (k.block x (Nat.lt_of_lt_of_le hx h.size) (fun hx' => hn (hO x hx' hx))).trans (h.block x hx hn)⟩
theorem Chg.mono {O O' : Nat → Prop} {a b : World} (h : Chg O a b) (hO : ∀ x, O x → x < a.heap.size → O' x) : Chg O' a b := (Chg.refl O' a).trans h hO
theorem Chg.set {O : Nat → Prop} {w : World} {a : Addr} (v : Value) (h : O a.block) : Chg O w (w.setCell a v) :=
  ⟨rfl, rfl, rfl, by simp [World.setCell], fun k _ hk => by
    have hne : k ≠ a.block := fun e => hk (e ▸ h)
    simp [World.setCell, Array.getElem?_modify, Ne.symm hne]⟩
theorem Chg.alloc (O : Nat → Prop) (w : World) (o : Obj) : Chg O w (w.alloc o) := .of_grown (World.grownBy_alloc w o none) (by simp)
theorem Chg.drew {O : Nat → Prop} {w w' : World} (h : Chg O w w') : Chg O w w'.drew := ⟨h.os, h.tape, h.output, h.size, h.block⟩
theorem Chg.turned {O : Nat → Prop} {w w' : World} {b : Nat} (h : w.mapTurned w' b) (hb : O b) : Chg O w w' := .of_grown h.grown (fun k e _ => by cases e; exact hb)
theorem Chg.cell {O : Nat → Prop} {w w' : World} (h : Chg O w w') {a : Addr} {v : Value} (hc : w.cell? a = some v) (hO : ¬ O a.block) : w'.cell? a = some v :=
  (World.cell?_of_block (h.block a.block (cell_lt hc) hO)).trans hc
theorem heap_lt {w : World} {b : Nat} {o : Obj} (h : w.heap[b]? = some o) : b < w.heap.size := (Array.getElem?_eq_some_iff.1 h).1
theorem Chg.obj {O : Nat → Prop} {w w' : World} (h : Chg O w w') {b : Nat} {o : Obj} (hb : w.heap[b]? = some o) (hO : ¬ O b) : w'.heap[b]? = some o := (h.block b (heap_lt hb) hO).trans hb
theorem Chg.map {O : Nat → Prop} {w w' : World} (h : Chg O w w') {P : Program} {k : TypeId} {R : Value → Option (DataW Unit × List MemPlace)} {b n : Nat} {D : DataW Unit} (hm : w.ownsMap P k R b n D) (hO : ¬ O b) : w'.ownsMap P k R b n D := by
  obtain ⟨es, c, hb, r⟩ := hm
  exact ⟨es, c, h.obj hb hO, r⟩
theorem Chg.row {O : Nat → Prop} {w w' : World} (h : Chg O w w') {base : Nat} {e : TypeId} {size n : Nat} {v : Value} {xs : List Value} (hr : w.ownsRow base e size v n xs) (hO : ∀ k, v.ownBlock = some k → ¬ O k) : w'.ownsRow base e size v n xs := by
  obtain ⟨h1, h2⟩ := hr
  refine ⟨h1, h2.imp id ?_⟩
  rintro ⟨g, cap, cur, rfl, h3, h4, h5⟩
  exact ⟨g, cap, cur, rfl, h3, h.obj h4 (hO g rfl), h5⟩
theorem heap_set_cells {w : World} {p i : Nat} {cs : Array Value} {e : TypeId} {f : Nat × Nat} (v : Value) (h : w.heap[p]? = some (.cells cs e f)) : (w.setCell ⟨p, i, none⟩ v).heap[p]? = some (.cells (cs.setIfInBounds i v) e f) := by
  simp [World.setCell, Array.getElem?_modify, h]
theorem cell_of_heap {w : World} {p i : Nat} {cs : Array Value} {e : TypeId} {f : Nat × Nat} {v : Value} (h : w.heap[p]? = some (.cells cs e f)) (hv : cs[i]? = some v) : w.cell? ⟨p, i, none⟩ = some v := by simp [World.cell?, h, hv]
theorem frozen_of_heap {w : World} {p i : Nat} {cs : Array Value} {e : TypeId} (h : w.heap[p]? = some (.cells cs e (0, 0))) : w.frozen? ⟨p, i, none⟩ = false := by simp [World.frozen?, h]

/-! ### the disk in memory -/
/-- bytes that nobody writes: a slice in blocks of R -/
def BytesIn (w : World) (R : Nat → Prop) (v : Value) (l : List UInt8) : Prop :=
  ∃ a c, v = .slice a l.length c ∧ l.length ≤ c ∧ (a = none → c = 0) ∧ RowAt w a (l.map bv) ∧ (∀ x, a = some x → R x.block) ∧ (∀ x, a = some x → x = ⟨x.block, 0, none⟩) ∧ w.ownsRow 0 5 1 (.slice a l.length c) l.length (l.map bv)
/-- how a pointer to a file reads as an element of the files' map -/
def ptrElem : Value → Option (DataW Unit × List MemPlace)
  | .pointer (some ⟨b, 0, none⟩) => some (.lit (.int .i64 (b : Int)), [])
  | .pointer none => some (.nil, [])
  | _ => none
theorem ptrElem_mk (b : Nat) : ptrElem (.pointer (some ⟨b, 0, none⟩)) = some (.lit (.int .i64 (b : Int)), []) := rfl
theorem ptrElem_inv {v : Value} {b : Nat} {ps : List MemPlace} (h : ptrElem v = some (.lit (.int .i64 (b : Int)), ps)) : v = .pointer (some ⟨b, 0, none⟩) := by
  unfold ptrElem at h
  split at h
  · simp at h; rw [← Int.natCast_inj.1 h.1]
  · simp at h
  · cases h
/-- the files' map: numbers from 0 on, and the blocks -/
def fileE (p : Nat × Nat) : Lit × DataW Unit := (.int .i64 (p.2 : Int), .lit (.int .i64 (p.1 : Int)))
def filesD (fb : List Nat) : DataW Unit := .map (fb.zipIdx.map fileE)
def FileIn (w : World) (R : Nat → Prop) (b : Nat) (d : List UInt8 × List UInt8) : Prop :=
  ∃ e vd vs, w.heap[b]? = some (.cells #[vd, vs] e (0, 0)) ∧ BytesIn w R vd d.1 ∧ BytesIn w R vs d.2
def BoxIn (w : World) (R : Nat → Prop) (v x : Value) : Prop := ∃ b, v = .pointer (some ⟨b, 0, none⟩) ∧ R b ∧ w.cell? ⟨b, 0, none⟩ = some x
def StepIn (w : World) (R : Nat → Prop) (v : Value) : NStep → Prop
  | .create k n => ∃ x y, v = .func (.func 228) #[] #[x, y] ∧ BoxIn w R x (.int .i64 (n : Int)) ∧ BoxIn w R y (sv k)
  | .rename _ _ => False
  | .remove k => ∃ x, v = .func (.func 236) #[] #[x] ∧ BoxIn w R x (sv k)
def LayIn (w : World) (R : Nat → Prop) (v : Value) (x : Wr) : Prop :=
  if x.cut then ∃ y, v = .func (.func 232) #[] #[y] ∧ BoxIn w R y (.int .i64 (x.place : Int))
  else ∃ y z u, v = .func (.func 243) #[] #[y, z] ∧ BoxIn w R y (.int .i64 (x.place : Int)) ∧ BoxIn w R z u ∧ BytesIn w R u x.data
/-- the four cells of a pending write -/
def WrIn (w : World) (R : Nat → Prop) (c : List Value) (x : Wr) : Prop := ∃ f, c = [.int .i64 (x.file : Int), .int .i64 (x.data.length : Int), .bool x.cut, f] ∧ LayIn w R f x

/-- the blocks that a disk writes -/
def ownL (p mf mn : Nat) (vs vw : Value) (fb : List Nat) : List Nat := p :: mf :: mn :: (vs.ownBlock.toList ++ (vw.ownBlock.toList ++ fb))

/-- THE PROGRAM's DISK s LIES AT p: its parts -/
structure DiskP (w : World) (p : Nat) (s : DSt) (R : Nat → Prop) (mf mn ms : Nat) (fb : List Nat) (vs vw : Value) (ss : List Value) (ws : List (List Value)) (e : TypeId) : Prop where
  cells : w.heap[p]? = some (.cells #[.int .i64 (s.room : Int), .map (some mf), .map (some mn), .map (some ms), vs, vw, .int .i64 (s.done : Int)] e (0, 0))
  filesM : w.ownsMap Tryz.prog 3 ptrElem mf fb.length (filesD fb)
  namesM : w.ownsMap Tryz.prog 9 (plainElem Tryz.prog 3) mn s.names.length (nameD s.names)
  sureM : w.ownsMap Tryz.prog 9 (plainElem Tryz.prog 3) ms s.sure.length (nameD s.sure)
  count : fb.length = s.files.length
  file : ∀ (i : Nat) b d, fb[i]? = some b → s.files[i]? = some d → FileIn w R b d
  stepsR : w.ownsRow 0 118 1 vs s.steps.length ss
  step : ∀ (i : Nat) v x, ss[i]? = some v → s.steps[i]? = some x → StepIn w R v x
  writesR : w.ownsRow 0 125 4 vw s.writes.length ws.flatten
  count4 : ws.length = s.writes.length
  write : ∀ (i : Nat) c x, ws[i]? = some c → s.writes[i]? = some x → WrIn w R c x
  apart : (ownL p mf mn vs vw fb).Nodup
  own : ∀ b ∈ ownL p mf mn vs vw fb, b < w.heap.size ∧ ¬ R b
  shared : ∀ b, R b → b < w.heap.size
  sureR : R ms
/-- THE PROGRAM's DISK s LIES AT p, writes the blocks own, and reads those of R, too -/
def DiskAt (w : World) (p : Nat) (s : DSt) (own : List Nat) (R : Nat → Prop) : Prop :=
  ∃ mf mn ms fb vs vw ss ws e, DiskP w p s R mf mn ms fb vs vw ss ws e ∧ own = ownL p mf mn vs vw fb

end Go.Proofs.YtlmdpcaikhdenaaGreat
/- Disk: the disk in memory stays what it is; look-ups; the small methods. -/
namespace Go.Proofs.YtlmdpcaikhdenaaGreat
open Go.RowKit Go.Maps

/-! ### frames -/
theorem RowAt.chg {O : Nat → Prop} {w w' : World} {a : Option Addr} {xs : List Value} (h : RowAt w a xs) (hc : Chg O w w') (hO : xs ≠ [] → ∀ x, a = some x → ¬ O x.block) : RowAt w' a xs := fun hx => by
  obtain ⟨b, off, e, hcell⟩ := h hx
  exact ⟨b, off, e, fun j u hu => hc.cell (hcell j u hu) (show ¬ O b from hO hx ⟨b, off, none⟩ e)⟩
theorem BytesIn.kept {O R R' : Nat → Prop} {w w' : World} {v : Value} {l : List UInt8} (h : BytesIn w R v l) (hc : Chg O w w') (hO : ∀ b, R b → ¬ O b) (hR : ∀ b, R b → R' b) : BytesIn w' R' v l := by
  obtain ⟨a, c, e, h1, h2, h3, h4, h5, h6⟩ := h
  refine ⟨a, c, e, h1, h2, h3.chg hc (fun hx x hxa => hO _ (h4 x hxa)), fun x hx => hR _ (h4 x hx), h5, hc.row h6 (fun k hk => ?_)⟩
  cases a with
  | none => cases hk
  | some x =>
    have h := h5 x rfl
    rw [h] at hk
    cases hk
    exact hO _ (h4 x rfl)
theorem BytesIn.nil (w : World) (R : Nat → Prop) : BytesIn w R (.slice none 0 0) [] := ⟨none, 0, rfl, Nat.le_refl _, fun _ => rfl, RowAt.nil _ _, (fun x h => by cases h), (fun x h => by cases h), World.ownsRow_nil _ _ _ _⟩
theorem FileIn.kept {O R R' : Nat → Prop} {w w' : World} {b : Nat} {d : List UInt8 × List UInt8} (h : FileIn w R b d) (hc : Chg O w w') (hO : ∀ b, R b → ¬ O b) (hR : ∀ b, R b → R' b) (hb : ¬ O b) : FileIn w' R' b d := by
  obtain ⟨e, vd, vs, h1, h2, h3⟩ := h
  exact ⟨e, vd, vs, hc.obj h1 hb, h2.kept hc hO hR, h3.kept hc hO hR⟩
theorem BoxIn.kept {O R R' : Nat → Prop} {w w' : World} {v x : Value} (h : BoxIn w R v x) (hc : Chg O w w') (hO : ∀ b, R b → ¬ O b) (hR : ∀ b, R b → R' b) : BoxIn w' R' v x := by
  obtain ⟨b, e, h1, h2⟩ := h
  exact ⟨b, e, hR b h1, hc.cell h2 (hO b h1)⟩
theorem StepIn.kept {O R R' : Nat → Prop} {w w' : World} {v : Value} {x : NStep} (h : StepIn w R v x) (hc : Chg O w w') (hO : ∀ b, R b → ¬ O b) (hR : ∀ b, R b → R' b) : StepIn w' R' v x := by
  cases x with
  | create k n => obtain ⟨x, y, e, h1, h2⟩ := h; exact ⟨x, y, e, h1.kept hc hO hR, h2.kept hc hO hR⟩
  | rename f t => exact False.elim h
  | remove k => obtain ⟨x, e, h1⟩ := h; exact ⟨x, e, h1.kept hc hO hR⟩
theorem LayIn.kept {O R R' : Nat → Prop} {w w' : World} {v : Value} {x : Wr} (h : LayIn w R v x) (hc : Chg O w w') (hO : ∀ b, R b → ¬ O b) (hR : ∀ b, R b → R' b) : LayIn w' R' v x := by
  unfold LayIn at h ⊢
  by_cases hx : x.cut = true
  · rw [if_pos hx] at h ⊢
    obtain ⟨y, e, h1⟩ := h; exact ⟨y, e, h1.kept hc hO hR⟩
  · rw [if_neg hx] at h ⊢
    obtain ⟨y, z, u, e, h1, h2, h3⟩ := h; exact ⟨y, z, u, e, h1.kept hc hO hR, h2.kept hc hO hR, h3.kept hc hO hR⟩
theorem WrIn.kept {O R R' : Nat → Prop} {w w' : World} {c : List Value} {x : Wr} (h : WrIn w R c x) (hc : Chg O w w') (hO : ∀ b, R b → ¬ O b) (hR : ∀ b, R b → R' b) : WrIn w' R' c x := by
  obtain ⟨f, e, h1⟩ := h; exact ⟨f, e, h1.kept hc hO hR⟩

theorem mem_own_vs {p mf mn : Nat} {vs vw : Value} {fb : List Nat} {k : Nat} (h : vs.ownBlock = some k) : k ∈ ownL p mf mn vs vw fb := by simp [ownL, h]
theorem mem_own_vw {p mf mn : Nat} {vs vw : Value} {fb : List Nat} {k : Nat} (h : vw.ownBlock = some k) : k ∈ ownL p mf mn vs vw fb := by simp [ownL, h]
theorem mem_own_fb {p mf mn : Nat} {vs vw : Value} {fb : List Nat} {k : Nat} (h : k ∈ fb) : k ∈ ownL p mf mn vs vw fb := by simp [ownL, h]
theorem mem_own_p {p mf mn : Nat} {vs vw : Value} {fb : List Nat} : p ∈ ownL p mf mn vs vw fb := by simp [ownL]
theorem mem_own_mf {p mf mn : Nat} {vs vw : Value} {fb : List Nat} : mf ∈ ownL p mf mn vs vw fb := by simp [ownL]
theorem mem_own_mn {p mf mn : Nat} {vs vw : Value} {fb : List Nat} : mn ∈ ownL p mf mn vs vw fb := by simp [ownL]

/-- what else changes leaves the disk as it is -/
theorem DiskP.kept {O R : Nat → Prop} {w w' : World} {p : Nat} {s : DSt} {mf mn ms : Nat} {fb : List Nat} {vs vw : Value} {ss : List Value} {ws : List (List Value)} {e : TypeId} (h : DiskP w p s R mf mn ms fb vs vw ss ws e) (hc : Chg O w w')
    (hO : ∀ b, R b → ¬ O b) (ho : ∀ b ∈ ownL p mf mn vs vw fb, ¬ O b) : DiskP w' p s R mf mn ms fb vs vw ss ws e where
  cells := hc.obj h.cells (ho _ mem_own_p)
  filesM := hc.map h.filesM (ho _ mem_own_mf)
  namesM := hc.map h.namesM (ho _ mem_own_mn)
  sureM := hc.map h.sureM (hO _ h.sureR)
  count := h.count
  file := fun i b d hb hd => (h.file i b d hb hd).kept hc hO (fun _ h => h) (ho _ (mem_own_fb (List.mem_of_getElem? hb)))
  stepsR := hc.row h.stepsR (fun k hk => ho _ (mem_own_vs hk))
  step := fun i v x hv hx => (h.step i v x hv hx).kept hc hO (fun _ h => h)
  writesR := hc.row h.writesR (fun k hk => ho _ (mem_own_vw hk))
  count4 := h.count4
  write := fun i v x hv hx => (h.write i v x hv hx).kept hc hO (fun _ h => h)
  apart := h.apart
  own := fun b hb => ⟨Nat.lt_of_lt_of_le (h.own b hb).1 hc.size, (h.own b hb).2⟩
  shared := fun b hb => Nat.lt_of_lt_of_le (h.shared b hb) hc.size
  sureR := h.sureR
theorem DiskAt.kept {O R : Nat → Prop} {w w' : World} {p : Nat} {s : DSt} {own : List Nat} (h : DiskAt w p s own R) (hc : Chg O w w') (hO : ∀ b, R b → ¬ O b) (ho : ∀ b ∈ own, ¬ O b) : DiskAt w' p s own R := by
  obtain ⟨mf, mn, ms, fb, vs, vw, ss, ws, e, h1, rfl⟩ := h
  exact ⟨mf, mn, ms, fb, vs, vw, ss, ws, e, h1.kept hc hO ho, rfl⟩

/-- what is new and not the disk's own is shared from now on -/
def RNew (R : Nat → Prop) (w w' : World) (own : List Nat) : Nat → Prop := fun b => R b ∨ (w.heap.size ≤ b ∧ b < w'.heap.size ∧ b ∉ own)
/-- A STEP OF THE DISK AT p: it stands as s' now -/
def Turns (w w' : World) (p : Nat) (s' : DSt) (own : List Nat) (R : Nat → Prop) : Prop :=
  ∃ own', DiskAt w' p s' own' (RNew R w w' own') ∧ Chg (· ∈ own) w w' ∧ ∀ b ∈ own', b ∈ own ∨ w.heap.size ≤ b

/-! ### look-ups -/
theorem zero_int : ∀ w, (zeroValue 3).run Tryz.prog w = .ok (.int .i64 0) w := Tryz.zeroValue3
theorem key_str {k : List UInt8} (h : k.length ≤ maxLen) : keyOf Tryz.prog 9 (sv k) = some (.string k) := by
  have := Go.WideMaps.keyOf_string_mk (P := Tryz.prog) (k := 9) Tryz.underlying9 (s := ⟨k.toArray⟩) (by simpa [ByteArray.size] using h)
  simpa [sv] using this
theorem elem_int {n : Nat} (h : n < 9223372036854775808) : plainElem (H := Unit) Tryz.prog 3 (.int .i64 (n : Int)) = some (.lit (.int .i64 (n : Int)), []) :=
  plainElem_int Tryz.underlying3 (wf_i64 (by omega) (by omega))
/-- names[k], with ok -/
theorem look_name {w : World} {b n : Nat} {l : NL} (h : w.ownsMap Tryz.prog 9 (plainElem Tryz.prog 3) b n (nameD l)) {k : List UInt8} (hk : k.length ≤ maxLen) :
    (Instr.lookup 109 (.map (some b)) (.string ⟨k.toArray⟩) true).run Tryz.prog w = .ok (.tuple #[.int .i64 (((nlFind l k).getD 0 : Nat) : Int), .bool (nlFind l k).isSome]) w := by
  obtain ⟨v, ps, hr, hv⟩ := h.look_ok (string_keyed Tryz.underlying9) Tryz.underlying109 (zero_int w) (elem_int (n := 0) (by omega)) (key_str hk)
  rw [nameD_at] at hv
  rw [nameD_has] at hr
  have hc : ∃ n : Nat, (nlFind l k).elim (DataW.lit (.int .i64 ((0 : Nat) : Int)) : DataW Unit) (fun n => .lit (.int .i64 (n : Int))) = .lit (.int .i64 (n : Int)) ∧ n = (nlFind l k).getD 0 := by
    cases nlFind l k <;> exact ⟨_, rfl, rfl⟩
  obtain ⟨n, e, rfl⟩ := hc
  rw [e] at hv
  obtain ⟨c, rfl, hcc, _⟩ := plainElem_int_inv Tryz.underlying3 hv
  simp only [Prod.mk.injEq, DataW.lit.injEq, Lit.int.injEq, true_and] at hcc
  rw [← hcc.1] at hr
  exact hr
/-- names[k], without -/
theorem look_name1 {w : World} {b n : Nat} {l : NL} (h : w.ownsMap Tryz.prog 9 (plainElem Tryz.prog 3) b n (nameD l)) {k : List UInt8} (hk : k.length ≤ maxLen) :
    (Instr.lookup 109 (.map (some b)) (.string ⟨k.toArray⟩) false).run Tryz.prog w = .ok (.int .i64 (((nlFind l k).getD 0 : Nat) : Int)) w := by
  obtain ⟨v, ps, hr, hv⟩ := h.lookup (string_keyed Tryz.underlying9) Tryz.underlying109 (zero_int w) (elem_int (n := 0) (by omega)) (key_str hk)
  rw [nameD_at] at hv
  have hc : ∃ n : Nat, (nlFind l k).elim (DataW.lit (.int .i64 ((0 : Nat) : Int)) : DataW Unit) (fun n => .lit (.int .i64 (n : Int))) = .lit (.int .i64 (n : Int)) ∧ n = (nlFind l k).getD 0 := by
    cases nlFind l k <;> exact ⟨_, rfl, rfl⟩
  obtain ⟨n, e, rfl⟩ := hc
  rw [e] at hv
  obtain ⟨c, rfl, hcc, _⟩ := plainElem_int_inv Tryz.underlying3 hv
  simp only [Prod.mk.injEq, DataW.lit.injEq, Lit.int.injEq, true_and] at hcc
  rw [← hcc.1] at hr
  exact hr

theorem filesD_at (fb : List Nat) (i : Nat) (h : i < fb.length) (z : DataW Unit) : (filesD fb).atKey (.int .i64 (i : Int)) z = .lit (.int .i64 (fb[i] : Int)) := by
  unfold filesD DataW.atKey
  simp only []
  have key : ∀ (l : List Nat) (o j : Nat) (hj : j < l.length), ((l.zipIdx o).map fileE).find? (fun p => p.1.sameKey (.int .i64 ((o + j : Nat) : Int))) = some (.int .i64 ((o + j : Nat) : Int), .lit (.int .i64 (l[j] : Int))) := by
    intro l
    induction l with
    | nil => intro o j hj; simp at hj
    | cons x r ih =>
      intro o j hj
      rw [List.zipIdx_cons, List.map_cons, List.find?_cons]
      have e : (fileE (x, o)).1.sameKey (.int .i64 ((o + j : Nat) : Int)) = decide (j = 0) := by
        simp [fileE, Lit.sameKey]
        omega
      rw [e]
      cases j with
      | zero => simp [fileE]
      | succ j =>
        have := ih (o + 1) j (by simpa using hj)
        rw [show o + 1 + j = o + (j + 1) from by omega] at this
        simp only [Nat.add_eq_zero_iff, Nat.one_ne_zero, and_false, decide_false]
        rw [this]
        rfl
  have := key fb 0 i h
  rw [Nat.zero_add] at this
  rw [this]
theorem zero_file : ∀ w, (zeroValue 122).run Tryz.prog w = .ok (.pointer none) w := Tryz.zeroValue122
/-- files[i] -/
theorem look_file {w : World} {b n : Nat} {fb : List Nat} (h : w.ownsMap Tryz.prog 3 ptrElem b n (filesD fb)) {i : Nat} (hi : i < fb.length) (h63 : i < 9223372036854775808) :
    (Instr.lookup 107 (.map (some b)) (.int .i64 (i : Int)) false).run Tryz.prog w = .ok (.pointer (some ⟨fb[i], 0, none⟩)) w := by
  obtain ⟨v, ps, hr, hv⟩ := h.lookup (int_keyed Tryz.underlying3) Tryz.underlying107 (zero_file w) (zd := .nil) (zp := []) rfl (keyOf_int_mk Tryz.underlying3 (wf_i64 (x := (i : Int)) (by omega) (by omega)))
  rw [filesD_at fb i hi] at hv
  rw [ptrElem_inv hv] at hr
  exact hr

/-! ### small methods -/
theorem run_equalIn_map (P : Program) (w : World) (d : Nat) (t k e : TypeId) (p : Option Nat) (h : P.underlying t = some (.map k e)) :
    (Op.equalIn (d + 1) t (.map p) (.map none)).run P w = .ok p.isNone w := by
  cases p <;> simp [Op.equalIn, run_underlying h]
theorem run_eql_map {P : Program} (t k e : TypeId) (p : Option Nat) (h : P.underlying t = some (.map k e)) (w : World) : (binOp .neq t (.map p) (.map none)).run P w = .ok (.bool p.isSome) w := by
  simp only [binOp]
  simp [show Op.equal t (.map p) (.map none) = Op.equalIn (9999 + 1) t (.map p) (.map none) from rfl, run_equalIn_map P w 9999 t k e p h]

set_option maxHeartbeats 1000000 in
theorem there_any {w : World} {p mn : Nat} {cs : Array Value} {e : TypeId} (h : w.heap[p]? = some (.cells cs e (0, 0))) (h2 : cs[2]? = some (.map (some mn))) :
    Calls Tryz.prog 49 #[.pointer (some ⟨p, 0, none⟩)] w fun e w' => e = .returned (.bool true) ∧ w = w' := by
  have hc := cell_of_heap h h2
  have hq := fun w => run_eql_map (P := Tryz.prog) 109 _ _ (some mn) Tryz.underlying109 w
  go_enter Tryz.func49, Tryz.ntmps49
  go_wp2
  go_ret
  exact ⟨rfl, rfl⟩

end Go.Proofs.YtlmdpcaikhdenaaGreat
/- Disk: a step of the disk is counted; the closure's contract is handed on. -/
namespace Go.Proofs.YtlmdpcaikhdenaaGreat
open Go.RowKit Go.Maps

section
variable {w : World} {p : Nat} {s : DSt} {R : Nat → Prop} {mf mn ms : Nat} {fb : List Nat} {vs vw : Value} {ss : List Value} {ws : List (List Value)} {e : TypeId}

theorem DiskP.widen (h : DiskP w p s R mf mn ms fb vs vw ss ws e) {R' : Nat → Prop} (hR : ∀ b, R b → R' b) (hs : ∀ b, R' b → b < w.heap.size ∧ b ∉ ownL p mf mn vs vw fb) : DiskP w p s R' mf mn ms fb vs vw ss ws e where
  cells := h.cells
  filesM := h.filesM
  namesM := h.namesM
  sureM := h.sureM
  count := h.count
  file := fun i b d hb hd => (h.file i b d hb hd).kept (Chg.refl (fun _ => False) w) (fun _ _ h => h) hR (fun h => h)
  stepsR := h.stepsR
  step := fun i v x hv hx => (h.step i v x hv hx).kept (Chg.refl (fun _ => False) w) (fun _ _ h => h) hR
  writesR := h.writesR
  count4 := h.count4
  write := fun i v x hv hx => (h.write i v x hv hx).kept (Chg.refl (fun _ => False) w) (fun _ _ h => h) hR
  apart := h.apart
  own := fun b hb => ⟨(h.own b hb).1, fun hr => (hs b hr).2 hb⟩
  shared := fun b hb => (hs b hb).1
  sureR := hR _ h.sureR

theorem DiskP.ne_p (h : DiskP w p s R mf mn ms fb vs vw ss ws e) : p ≠ mf ∧ p ≠ mn ∧ (∀ k, vs.ownBlock = some k → k ≠ p) ∧ (∀ k, vw.ownBlock = some k → k ≠ p) ∧ p ∉ fb := by
  have ha := h.apart
  simp only [ownL, List.nodup_cons, List.mem_cons, List.mem_append, Option.mem_toList] at ha
  grind
theorem DiskP.notR (h : DiskP w p s R mf mn ms fb vs vw ss ws e) {b : Nat} (hb : b ∈ ownL p mf mn vs vw fb) (x : Nat) (hx : R x) : x ≠ b := fun e => (h.own b hb).2 (e ▸ hx)

/-- the count of the steps goes up -/
theorem DiskP.tick (h : DiskP w p s R mf mn ms fb vs vw ss ws e) : DiskP (w.setCell ⟨p, 6, none⟩ (.int .i64 ((s.done + 1 : Nat) : Int))) p s.tick R mf mn ms fb vs vw ss ws e := by
  have hc : Chg (· = p) w (w.setCell ⟨p, 6, none⟩ (.int .i64 ((s.done + 1 : Nat) : Int))) := Chg.set _ rfl
  obtain ⟨n1, n2, n3, n4, n5⟩ := h.ne_p
  have hO : ∀ b, R b → ¬ b = p := fun b hb => h.notR mem_own_p b hb
  exact {
    cells := heap_set_cells _ h.cells
    filesM := hc.map h.filesM (Ne.symm n1)
    namesM := hc.map h.namesM (Ne.symm n2)
    sureM := hc.map h.sureM (hO _ h.sureR)
    count := h.count
    file := fun i b d hb hd => (h.file i b d hb hd).kept hc hO (fun _ h => h) (fun e => n5 (e ▸ List.mem_of_getElem? hb))
    stepsR := hc.row h.stepsR n3
    step := fun i v x hv hx => (h.step i v x hv hx).kept hc hO (fun _ h => h)
    writesR := hc.row h.writesR n4
    count4 := h.count4
    write := fun i v x hv hx => (h.write i v x hv hx).kept hc hO (fun _ h => h)
    apart := h.apart
    own := fun b hb => ⟨Nat.lt_of_lt_of_le (h.own b hb).1 hc.size, (h.own b hb).2⟩
    shared := fun b hb => Nat.lt_of_lt_of_le (h.shared b hb) hc.size
    sureR := h.sureR }
end

theorem Turns.of_parts {w w' : World} {p : Nat} {s' : DSt} {own : List Nat} {R : Nat → Prop} {mf mn ms : Nat} {fb : List Nat} {vs vw : Value} {ss : List Value} {ws : List (List Value)} {e : TypeId}
    (h : DiskP w' p s' (RNew R w w' (ownL p mf mn vs vw fb)) mf mn ms fb vs vw ss ws e) (hc : Chg (· ∈ own) w w') (ho : ∀ b ∈ ownL p mf mn vs vw fb, b ∈ own ∨ w.heap.size ≤ b) : Turns w w' p s' own R :=
  ⟨_, ⟨mf, mn, ms, fb, vs, vw, ss, ws, e, h, rfl⟩, hc, ho⟩
theorem rnew_ok {R : Nat → Prop} {w w' : World} {own own' : List Nat} (hR : ∀ b, R b → b < w.heap.size ∧ b ∉ own) (hs : w.heap.size ≤ w'.heap.size) (ho : ∀ b ∈ own', b ∈ own ∨ w.heap.size ≤ b) :
    ∀ b, RNew R w w' own' b → b < w'.heap.size ∧ b ∉ own' := by
  intro b hb
  rcases hb with hb | ⟨h1, h2, h3⟩
  · have := hR b hb
    exact ⟨by omega, fun hm => by rcases ho b hm with h | h; exact this.2 h; omega⟩
  · exact ⟨h2, h3⟩
theorem Turns.trans {w w1 w2 : World} {p : Nat} {s1 s2 : DSt} {own : List Nat} {R : Nat → Prop} (h : Turns w w1 p s1 own R) (hR : ∀ b, R b → b < w.heap.size ∧ b ∉ own)
    (k : ∀ own1, DiskAt w1 p s1 own1 (RNew R w w1 own1) → Turns w1 w2 p s2 own1 (RNew R w w1 own1)) : Turns w w2 p s2 own R := by
  obtain ⟨own1, h1, h2, h3⟩ := h
  obtain ⟨own2, k1, k2, k3⟩ := k own1 h1
  have h4 : ∀ b ∈ own2, b ∈ own ∨ w.heap.size ≤ b := fun b hb => by
    rcases k3 b hb with hb | hb
    · exact h3 b hb
    · exact .inr (Nat.le_trans h2.size hb)
  have hc : Chg (· ∈ own) w w2 := h2.trans k2 (fun x hx hlt => by rcases h3 x hx with h | h; exact h; omega)
  obtain ⟨mf, mn, ms, fb, vs, vw, ss, ws, e, hp, rfl⟩ := k1
  refine ⟨_, ⟨mf, mn, ms, fb, vs, vw, ss, ws, e, hp.widen (fun b hb => ?_) (rnew_ok hR hc.size h4), rfl⟩, hc, h4⟩
  rcases hb with (hb | ⟨h5, h6, h7⟩) | ⟨h5, h6, h7⟩
  · exact .inl hb
  · refine .inr ⟨h5, Nat.lt_of_lt_of_le h6 k2.size, fun hm => ?_⟩
    rcases k3 b hm with h | h
    · exact h7 h
    · omega
  · exact .inr ⟨Nat.le_trans h2.size h5, h6, h7⟩

section
variable {w : World} {p : Nat} {s : DSt} {R : Nat → Prop} {mf mn ms : Nat} {fb : List Nat} {vs vw : Value} {ss : List Value} {ws : List (List Value)} {e : TypeId}
theorem DiskP.hR (h : DiskP w p s R mf mn ms fb vs vw ss ws e) : ∀ b, R b → b < w.heap.size ∧ b ∉ ownL p mf mn vs vw fb := fun b hb => ⟨h.shared b hb, fun hm => (h.own b hm).2 hb⟩
theorem DiskP.ticked (h : DiskP w p s R mf mn ms fb vs vw ss ws e) : Turns w (w.setCell ⟨p, 6, none⟩ (.int .i64 ((s.done + 1 : Nat) : Int))) p s.tick (ownL p mf mn vs vw fb) R := by
  have hc : Chg (· ∈ ownL p mf mn vs vw fb) w (w.setCell ⟨p, 6, none⟩ (.int .i64 ((s.done + 1 : Nat) : Int))) := Chg.set _ mem_own_p
  exact .of_parts (h.tick.widen (fun b hb => .inl hb) (rnew_ok h.hR hc.size (fun b hb => .inl hb))) hc (fun b hb => .inl hb)
end

set_option maxHeartbeats 1000000 in
theorem step_none {w : World} {p : Nat} {s : DSt} {R : Nat → Prop} {mf mn ms : Nat} {fb : List Nat} {vs vw : Value} {ss : List Value} {ws : List (List Value)} {e : TypeId} (h : DiskP w p s R mf mn ms fb vs vw ss ws e)
    {k : List UInt8} (hk : k.length ≤ maxLen) (hf : nlFind s.names k = none) (hd : s.done < 4611686018427387904) (f : Value) :
    Calls Tryz.prog 229 #[.pointer (some ⟨p, 0, none⟩), .string ⟨k.toArray⟩, f] w fun e w' => e = .returned (.int .i64 7) ∧ w' = w.setCell ⟨p, 6, none⟩ (.int .i64 ((s.done + 1 : Nat) : Int)) := by
  have hth := there_any h.cells (mn := mn) (by rfl)
  have c2 := cell_of_heap h.cells (i := 2) (v := .map (some mn)) (by rfl)
  have c6 := cell_of_heap h.cells (i := 6) (v := .int .i64 (s.done : Int)) (by rfl)
  have z6 := frozen_of_heap (i := 6) h.cells
  have hl := look_name h.tick.namesM hk
  have hl2 : nlFind s.tick.names k = none := hf
  rw [hl2] at hl
  simp only [Option.getD_none, Option.isSome_none] at hl
  have hn : ((s.done + 1 : Nat) : Int) = (s.done : Int) + 1 := by omega
  rw [hn] at hl ⊢
  generalize (s.done : Int) = d at *
  go_enter Tryz.func229, Tryz.ntmps229
  go_wp2_with (go_at_call 49; refine hth.mono ?_; rintro e w1 ⟨rfl, rfl⟩)
  go_ret
  exact ⟨rfl, rfl⟩

end Go.Proofs.YtlmdpcaikhdenaaGreat
/- Disk: a step with a closure; a step of the names. -/
namespace Go.Proofs.YtlmdpcaikhdenaaGreat
open Go.RowKit Go.Maps

set_option maxHeartbeats 1000000 in
theorem step_some {w : World} {p : Nat} {s : DSt} {R : Nat → Prop} {mf mn ms : Nat} {fb : List Nat} {vs vw : Value} {ss : List Value} {ws : List (List Value)} {e : TypeId} (h : DiskP w p s R mf mn ms fb vs vw ss ws e)
    {k : List UInt8} (hk : k.length ≤ maxLen) {n : Nat} (hf : nlFind s.names k = some n) (hd : s.done < 4611686018427387904) (N : FuncId) (caps : Array Value) (henter : ∀ args w, (callFunc N args).run Tryz.prog w = .ok (.enter N args) w)
    (Q : Int → World → Prop) (hcall : Calls Tryz.prog N (#[.int .i64 (n : Int)] ++ caps) (w.setCell ⟨p, 6, none⟩ (.int .i64 ((s.done + 1 : Nat) : Int))) fun e w' => ∃ v, e = .returned (.int .i64 v) ∧ Q v w') :
    Calls Tryz.prog 229 #[.pointer (some ⟨p, 0, none⟩), .string ⟨k.toArray⟩, .func (.func N) #[] caps] w fun e w' => ∃ v, e = .returned (.int .i64 v) ∧ Q v w' := by
  have hth := there_any h.cells (mn := mn) (by rfl)
  have c2 := cell_of_heap h.cells (i := 2) (v := .map (some mn)) (by rfl)
  have c6 := cell_of_heap h.cells (i := 6) (v := .int .i64 (s.done : Int)) (by rfl)
  have z6 := frozen_of_heap (i := 6) h.cells
  have hl := look_name h.tick.namesM hk
  have hl2 : nlFind s.tick.names k = some n := hf
  rw [hl2] at hl
  simp only [Option.getD_some, Option.isSome_some] at hl
  have hn : ((s.done + 1 : Nat) : Int) = (s.done : Int) + 1 := by omega
  rw [hn] at hl hcall
  generalize (s.done : Int) = d at *
  go_enter Tryz.func229, Tryz.ntmps229
  go_wp2_with (first | (go_at_call 49; refine hth.mono ?_; rintro e w1 ⟨rfl, rfl⟩) | (refine hcall.mono ?_; rintro e w1 ⟨v, rfl, hq⟩))
  go_ret
  exact ⟨_, rfl, hq⟩

end Go.Proofs.YtlmdpcaikhdenaaGreat
/- Disk: what the closures of the names' steps do. -/
namespace Go.Proofs.YtlmdpcaikhdenaaGreat
open Go.RowKit Go.Maps

/-! ### a map's size is what it reads as -/
theorem ownsMap_tight {w : World} {P : Program} {k : TypeId} {R : Value → Option (DataW Unit × List MemPlace)} {b n : Nat} {D : DataW Unit} (h : w.ownsMap P k R b n D) : w.ownsMap P k R b (size D) D := by
  obtain ⟨es, c, hb, F, hs, hD⟩ := h
  refine ⟨es, c, hb, F, ?_, hD⟩
  rw [hD, size_eq, length_sorted]; simp
theorem names_tight {w : World} {P : Program} {k : TypeId} {R : Value → Option (DataW Unit × List MemPlace)} {b n : Nat} {l : NL} (h : w.ownsMap P k R b n (nameD l)) : w.ownsMap P k R b l.length (nameD l) := by
  have := ownsMap_tight h
  rwa [nameD_size] at this
theorem nlDel_le (l : NL) (k : List UInt8) : (nlDel l k).length ≤ l.length := List.length_filter_le _ _
theorem nlIns_len (x : List UInt8 × Nat) : ∀ l : NL, (nlIns x l).length = l.length + 1
  | [] => rfl
  | y :: r => by unfold nlIns; split; rfl; simp [nlIns_len x r]
theorem nlPut_le (l : NL) (k : List UInt8) (n : Nat) : (nlPut l k n).length ≤ l.length + 1 := by
  unfold nlPut; rw [nlIns_len]; have := nlDel_le l k; omega
theorem doStep_le (l : NL) (x : NStep) : (doStep l x).length ≤ l.length + 1 := by
  cases x with
  | create k n => exact nlPut_le l k n
  | rename f t =>
    simp only [doStep]
    split
    · rename_i n _
      have := nlPut_le (nlDel l f) t n; have := nlDel_le l f; omega
    · omega
  | remove k => have := nlDel_le l k; simp only [doStep]; omega

/-- WHAT A STEP's CLOSURE DOES TO NAMES -/
def DoesStep (v : Value) (x : NStep) (b : Nat) (l : NL) (w : World) : Prop :=
  ∃ N caps, v = .func (.func N) #[] caps ∧ (∀ args w, (callFunc N args).run Tryz.prog w = .ok (.enter N args) w) ∧
    Calls Tryz.prog N (#[.map (some b)] ++ caps) w fun e w' => e = .returned (.tuple #[]) ∧ w'.ownsMap Tryz.prog 9 (plainElem Tryz.prog 3) b (doStep l x).length (nameD (doStep l x)) ∧ w.grownBy w' (some b)

def enters (N : FuncId) : Prop := ∀ args w, (callFunc N args).run Tryz.prog w = .ok (.enter N args) w
theorem enters_create : enters 228 := fun args w => by go_simp
theorem enters_remove : enters 236 := fun args w => by go_simp

set_option maxHeartbeats 1000000 in
theorem create_does {w : World} {R : Nat → Prop} {b : Nat} {l : NL} {k : List UInt8} {n : Nat} {v : Value} (hv : StepIn w R v (.create k n)) (hm : w.ownsMap Tryz.prog 9 (plainElem Tryz.prog 3) b l.length (nameD l)) (hk : k.length ≤ maxLen) (hn : n < 9223372036854775808) (hl : l.length < maxLen) : DoesStep v (.create k n) b l w := by
  obtain ⟨x, y, rfl, ⟨b1, rfl, _, c1⟩, ⟨b2, rfl, _, c2⟩⟩ := hv
  refine ⟨_, _, rfl, enters_create, ?_⟩
  unfold sv at c2
  go_enter Tryz.func228, Tryz.ntmps228
  go_wp2_with (at_mapUpdate; refine wpList_mapUpdate_in _ rfl _ _ _ 109 rfl 9 3 (string_keyed Tryz.underlying9) Tryz.underlying109 (plainElem Tryz.prog 3) b l.length (nameD l) rfl hm hl _ _ (.string k) rfl rfl (key_str hk) (.lit (.int .i64 (n : Int))) [] (elem_int hn) ?_)
  intro w1 hm1 ht1
  rw [nameD_put] at hm1
  go_wp2
  go_end0
  exact ⟨rfl, names_tight hm1, ht1.grown⟩

set_option maxHeartbeats 1000000 in
theorem remove_does {w : World} {R : Nat → Prop} {b : Nat} {l : NL} {k : List UInt8} {v : Value} (hv : StepIn w R v (.remove k)) (hm : w.ownsMap Tryz.prog 9 (plainElem Tryz.prog 3) b l.length (nameD l)) (hk : k.length ≤ maxLen) : DoesStep v (.remove k) b l w := by
  obtain ⟨x, rfl, ⟨b1, rfl, _, c1⟩⟩ := hv
  refine ⟨_, _, rfl, enters_remove, ?_⟩
  unfold sv at c1
  go_enter Tryz.func236, Tryz.ntmps236
  go_wp2_with (at_delete; refine wpList_delete_own _ rfl _ _ 109 9 rfl 3 (string_keyed Tryz.underlying9) Tryz.underlying109 (plainElem Tryz.prog 3) b l.length (nameD l) rfl hm _ (.string k) rfl (key_str hk) ?_)
  intro w1 hm1 ht1
  rw [nameD_del] at hm1
  go_wp2
  go_end0
  exact ⟨rfl, names_tight hm1, ht1.grown⟩


end Go.Proofs.YtlmdpcaikhdenaaGreat
