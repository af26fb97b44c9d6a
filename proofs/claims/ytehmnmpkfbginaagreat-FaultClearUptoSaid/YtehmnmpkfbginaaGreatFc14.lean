/- Texts of this claim, one behind the other: DkU, DkV, DkW, DkX, DkY, DkZ, DlA, DlP. -/
import Derived.Test.YtehmnmpkfbginaaGreatFc13
import Derived.Test.YtehmnmpkfbginaaGreatFc02
import Derived.Deep.AppendLies
set_option linter.unusedSimpArgs false
set_option linter.unusedVariables false
/- Disk: New. -/
namespace Go.Proofs.YtehmnmpkfbginaaGreat
open Go.RowKit Go.Maps Go.Shelf

/-- a disk without files -/
def DSt.empty (room : Nat) : DSt := ⟨room, [], [], [], [], [], 0⟩

theorem new_bad {cap : Int} (hc : cap < 0 ∨ 1099511627776 < cap) (w : World) : Calls Tryz.prog 14 #[.int .i64 cap] w fun e w' => e = .returned (.tuple #[.pointer none, .int .i64 2]) ∧ w = w' := by
  have hO : Calls Tryz.prog 6 #[.int .i64 cap, .slice none 0 0] w fun e w' => e = .returned (.tuple #[.pointer none, .int .i64 2]) ∧ w = w' := by
    by_cases h1 : cap < 0
    · have g1 : decide (cap < 0) = true := by simpa using h1
      go_enter Tryz.func6, Tryz.ntmps6
      go_wp2
      go_ret2
      exact ⟨rfl, rfl⟩
    · have g1 : decide (cap < 0) = false := by simpa using h1
      have g2 : decide (1099511627776 < cap) = true := by simp; omega
      go_enter Tryz.func6, Tryz.ntmps6
      go_wp2
      go_ret2
      exact ⟨rfl, rfl⟩
  go_enter Tryz.func14, Tryz.ntmps14
  go_wp2_with (go_at_call 6; refine hO.mono ?_; rintro _ w1 ⟨rfl, rfl⟩)
  go_ret2
  exact ⟨rfl, rfl⟩

set_option maxRecDepth 100000 in
set_option maxHeartbeats 4000000 in
theorem of_none {cap : Nat} (hc : cap ≤ 1099511627776) (w : World) : Calls Tryz.prog 6 #[.int .i64 (cap : Int), .slice none 0 0] w fun e w' => ∃ p own, e = .returned (.tuple #[.pointer (some ⟨p, 0, none⟩), .int .i64 0]) ∧ DiskAt w' p (DSt.empty cap) own (fun b => w.heap.size ≤ b ∧ b < w'.heap.size ∧ b ∉ own) ∧ (∀ b ∈ own, w.heap.size ≤ b) ∧ Below w.heap.size w w' := by
  have g1 : decide ((cap : Int) < 0) = false := by simp
  have g2 : decide (1099511627776 < (cap : Int)) = false := by simp; omega
  have hmk := fun t w => run_makeMap (P := Tryz.prog) t w
  obtain ⟨w3, hw3⟩ : ∃ w3, ((w.alloc (.map #[] 0)).alloc (.map #[] 0)).alloc (.cells #[.int .i64 (cap : Int), .map (some w.heap.size), .map (some (w.heap.size + 1)), .map none, .slice none 0 0, .slice none 0 0, .int .i64 0] 68) = w3 := ⟨_, rfl⟩
  have hb3 : Below w.heap.size w w3 := by rw [← hw3]; exact ((below_alloc w _).alloc (by simp) _).alloc (by simp; omega) _
  have hz3 : w3.heap.size = w.heap.size + 1 + 1 + 1 := by rw [← hw3]; simp
  have hfm : w3.ownsMap Tryz.prog 3 ptrElem w.heap.size 0 (filesD []) := by rw [← hw3]; exact ((World.ownsMap_made w _ _ _).alloc _).alloc _
  have hnm : w3.ownsMap Tryz.prog 9 (plainElem Tryz.prog 3) (w.heap.size + 1) 0 (nameD []) := by rw [← hw3]; have := (World.ownsMap_made (w.alloc (.map #[] 0)) Tryz.prog 9 (plainElem (H := Unit) Tryz.prog 3)).alloc (.cells #[.int .i64 (cap : Int), .map (some w.heap.size), .map (some (w.heap.size + 1)), .map none, .slice none 0 0, .slice none 0 0, .int .i64 0] 68); rwa [World.size_alloc] at this
  have hcl : w3.heap[w.heap.size + 1 + 1]? = some (.cells #[.int .i64 (cap : Int), .map (some w.heap.size), .map (some (w.heap.size + 1)), .map none, .slice none 0 0, .slice none 0 0, .int .i64 0] 68 (0, 0)) := by rw [← hw3]; have := World.alloc_heap_new ((w.alloc (.map #[] 0)).alloc (.map #[] 0)) (.cells #[.int .i64 (cap : Int), .map (some w.heap.size), .map (some (w.heap.size + 1)), .map none, .slice none 0 0, .slice none 0 0, .int .i64 0] 68); rwa [World.size_alloc, World.size_alloc] at this
  have c2 := cell_of_heap hcl (i := 2) (v := .map (some (w.heap.size + 1))) (by rfl)
  have hcn := cloneN_any hnm
  have hplt := heap_lt hcl
  have HZ := Lib.hid hz3; clear hz3
  go_enter Tryz.func6, Tryz.ntmps6
  go_wp2_with fail
  refine wp_loop_rounds 1 ?_
  rw [rounds_succ]
  go_wp2_with (go_at_call 25; refine hcn.mono ?_; rintro _ w4 ⟨rfl, hm4, hb4⟩; have k3 := cell_of_heap ((hb4.block _ hplt).trans hcl) (i := 3) (v := .map none) (by rfl); have z3 := frozen_of_heap (i := 3) ((hb4.block _ hplt).trans hcl))
  go_ret2
  have hz3 := HZ.out
  have hm4s := hm4.lt
  have hs4 := hb4.size
  have hc5 : Chg (· = w.heap.size + 1 + 1) w4 (w4.setCell ⟨w.heap.size + 1 + 1, 3, none⟩ (.map (some w3.heap.size))) := Chg.set _ rfl
  have hcell5 := heap_set_cells (i := 3) (.map (some w3.heap.size)) ((hb4.block _ hplt).trans hcl)
  have hc35 : Chg (· = w.heap.size + 1 + 1) w3 (w4.setCell ⟨w.heap.size + 1 + 1, 3, none⟩ (.map (some w3.heap.size))) := (Chg.of_below hb4).trans hc5 (fun _ h _ => h)
  have hs5 : (w4.setCell ⟨w.heap.size + 1 + 1, 3, none⟩ (.map (some w3.heap.size))).heap.size = w4.heap.size := by simp [World.setCell]
  have hfm5 := hc35.map hfm (by omega)
  have hnm5 := hc35.map hnm (by omega)
  have hm5 := hc5.map hm4 (by omega)
  have hbf : Below w.heap.size w (w4.setCell ⟨w.heap.size + 1 + 1, 3, none⟩ (.map (some w3.heap.size))) := (bthen hb3 hb4).setCell (p := ⟨w.heap.size + 1 + 1, 3, none⟩) (by show _ ≤ w.heap.size + 1 + 1; omega) _
  generalize w4.setCell ⟨w.heap.size + 1 + 1, 3, none⟩ (.map (some w3.heap.size)) = w5 at *
  refine ⟨_, _, rfl, ⟨w.heap.size, w.heap.size + 1, w3.heap.size, [], .slice none 0 0, .slice none 0 0, [], [], 68, ?_, rfl⟩, ?_, hbf⟩
  · exact {
      cells := by simpa [DSt.empty] using hcell5
      filesM := hfm5
      namesM := hnm5
      sureM := hm5
      count := rfl
      file := fun i b d hb => by simp at hb
      stepsR := World.ownsRow_nil _ _ _ _
      step := fun i v x hv => by simp at hv
      writesR := World.ownsRow_nil _ _ _ _
      count4 := rfl
      write := fun i c x hc => by simp at hc
      apart := by simp [ownL, Value.ownBlock]; omega
      own := fun b hb => ⟨by simp [ownL, Value.ownBlock] at hb; omega, fun h => h.2.2 hb⟩
      shared := fun b hb => hb.2.1
      sureR := ⟨by omega, by omega, fun hm => by simp [ownL, Value.ownBlock] at hm; omega⟩ }
  · intro b hb
    simp [ownL, Value.ownBlock] at hb
    omega

theorem new_any {cap : Nat} (hc : cap ≤ 1099511627776) (w : World) : Calls Tryz.prog 14 #[.int .i64 (cap : Int)] w fun e w' => ∃ p own, e = .returned (.tuple #[.pointer (some ⟨p, 0, none⟩), .int .i64 0]) ∧ DiskAt w' p (DSt.empty cap) own (fun b => w.heap.size ≤ b ∧ b < w'.heap.size ∧ b ∉ own) ∧ (∀ b ∈ own, w.heap.size ≤ b) ∧ Below w.heap.size w w' := by
  have hO := of_none hc w
  go_enter Tryz.func14, Tryz.ntmps14
  go_wp2_with (go_at_call 6; refine hO.mono ?_; rintro _ w1 ⟨p, own, rfl, hD, ho, hb⟩)
  go_ret2
  exact ⟨p, own, rfl, hD, ho, hb⟩

end Go.Proofs.YtehmnmpkfbginaaGreat
/- Disk: plain: what steps do to names; what a stop lays. No program in sight. -/
namespace Go.Proofs.YtehmnmpkfbginaaGreat
open Go.RowKit Go.Maps

/-- names that are well made: rising, names all, and files below F -/
structure NamesOk (l : NL) (F : Nat) : Prop where
  rising : Rising l
  each : ∀ p ∈ l, p.2 < F ∧ NameOk p.1

theorem mem_nlDel {l : NL} {k : List UInt8} {p : List UInt8 × Nat} : p ∈ nlDel l k ↔ p ∈ l ∧ p.1 ≠ k := by
  unfold nlDel; rw [List.mem_filter]; simp
theorem mem_nlIns {x y : List UInt8 × Nat} : ∀ {l : NL}, y ∈ nlIns x l ↔ y = x ∨ y ∈ l
  | [] => by simp [nlIns]
  | z :: r => by
    unfold nlIns
    split
    · simp
    · rw [List.mem_cons, mem_nlIns, List.mem_cons]
      constructor
      · rintro (h | h | h)
        · exact .inr (.inl h)
        · exact .inl h
        · exact .inr (.inr h)
      · rintro (h | h | h)
        · exact .inr (.inl h)
        · exact .inl h
        · exact .inr (.inr h)
theorem mem_nlPut {l : NL} {k : List UInt8} {n : Nat} {p : List UInt8 × Nat} : p ∈ nlPut l k n ↔ p = (k, n) ∨ (p ∈ l ∧ p.1 ≠ k) := by
  unfold nlPut; rw [mem_nlIns, mem_nlDel]
theorem rising_del {l : NL} (h : Rising l) (k : List UInt8) : Rising (nlDel l k) := List.Pairwise.filter _ h
theorem before_trans {a b c : List UInt8} (h1 : bytesBefore a b = true) (h2 : bytesBefore b c = true) : bytesBefore a c = true := WideShapes.bytes_trans a b c h1 h2
theorem rising_ins {x : List UInt8 × Nat} : ∀ {l : NL}, Rising l → (∀ p ∈ l, p.1 ≠ x.1) → Rising (nlIns x l)
  | [], _, _ => by simp [nlIns, Rising]
  | z :: r, h, hn => by
    obtain ⟨h1, h2⟩ := List.pairwise_cons.1 h
    unfold nlIns
    split
    · rename_i hb
      refine List.pairwise_cons.2 ⟨fun p hp => ?_, h⟩
      rcases List.mem_cons.1 hp with rfl | hp
      · exact hb
      · exact before_trans hb (h1 p hp)
    · rename_i hb
      have hzx : bytesBefore z.1 x.1 = true := by
        rcases WideAt.bytes_total x.1 z.1 (fun e => hn z List.mem_cons_self e.symm) with h3 | h3
        · exact absurd h3 hb
        · exact h3
      refine List.pairwise_cons.2 ⟨fun p hp => ?_, rising_ins h2 (fun p hp => hn p (List.mem_cons_of_mem _ hp))⟩
      rcases mem_nlIns.1 hp with rfl | hp
      · exact hzx
      · exact h1 p hp
theorem rising_put {l : NL} (h : Rising l) (k : List UInt8) (n : Nat) : Rising (nlPut l k n) := rising_ins (rising_del h k) (fun p hp => (mem_nlDel.1 hp).2)
theorem NamesOk.put {l : NL} {F n : Nat} {k : List UInt8} (h : NamesOk l F) (hk : NameOk k) (hn : n < F) : NamesOk (nlPut l k n) F :=
  ⟨rising_put h.rising k n, fun p hp => by rcases mem_nlPut.1 hp with rfl | ⟨hp, _⟩; exact ⟨hn, hk⟩; exact h.each p hp⟩
theorem NamesOk.del {l : NL} {F : Nat} (h : NamesOk l F) (k : List UInt8) : NamesOk (nlDel l k) F := ⟨rising_del h.rising k, fun p hp => h.each p (mem_nlDel.1 hp).1⟩
theorem nlFind_mem' {l : NL} {k : List UInt8} {n : Nat} (h : nlFind l k = some n) : (k, n) ∈ l := by
  unfold nlFind at h
  obtain ⟨p, hp, rfl⟩ := Option.map_eq_some_iff.1 h
  have h1 := List.mem_of_find?_eq_some hp
  have h2 := List.find?_some hp
  simp at h2
  rw [← h2]; exact h1
theorem NamesOk.step {l : NL} {F : Nat} {x : NStep} (h : NamesOk l F) (hx : StepOk F x) : NamesOk (doStep l x) F := by
  cases x with
  | create k n => exact h.put hx.2 hx.1
  | rename f t =>
    simp only [doStep]
    split
    · rename_i n hf; exact (h.del f).put hx.2 (h.each _ (nlFind_mem' hf)).1
    · exact h
  | remove k => exact h.del k
theorem NamesOk.steps {l : NL} {F : Nat} {xs : List NStep} (h : NamesOk l F) (hx : ∀ x ∈ xs, StepOk F x) : NamesOk (xs.foldl doStep l) F := by
  induction xs generalizing l with
  | nil => exact h
  | cons x r ih => exact ih (h.step (hx x List.mem_cons_self)) (fun y hy => hx y (List.mem_cons_of_mem _ hy))

/-! ### a stop, as the program reckons it -/
/-- the writes that are kept, in order -/
def keptW (s : DSt) (l : NL) (keep : List Bool) (i : Nat) : List Wr := ((s.writes.zipIdx.take i).filter fun p => leadsTo l p.1.file && keep.getD p.2 false).map (·.1)
/-- the place of the last of them that is no cut, looked for from behind -/
def lastW (K : List Wr) : Nat → Option Nat
  | 0 => none
  | k + 1 => if (K[k]?.map (·.cut)).getD false then lastW K k else some k
/-- how much of the i-th kept write is laid -/
def sizeW (last : Option Nat) (torn : Int) (i : Nat) (x : Wr) : Nat := if last = some i ∧ 0 ≤ torn then min x.data.length torn.toNat else x.data.length
/-- the bytes of the files behind the first i kept writes -/
def dataW (s : DSt) (K : List Wr) (last : Option Nat) (torn : Int) : Nat → Nat → List UInt8
  | 0, f => s.lasts f
  | i + 1, f => match K[i]? with
    | some x => if x.file = f then laid (dataW s K last torn i f) x (sizeW last torn i x) else dataW s K last torn i f
    | none => dataW s K last torn i f

end Go.Proofs.YtehmnmpkfbginaaGreat
/- Disk: Stop: its code in pieces; the first loop: steps of the names. -/
namespace Go.Proofs.YtehmnmpkfbginaaGreat
open Go.RowKit Go.Maps Go.Shelf

/-- the loops of a code, in order -/
def loopsOf : Code → List Code
  | .loop c => [c]
  | .seq a b => loopsOf a ++ loopsOf b
  | .block _ c => loopsOf c
  | .scope c => loopsOf c
  | .cond _ a b => loopsOf a ++ loopsOf b
  | _ => []

theorem step_does {w : World} {R : Nat → Prop} {b : Nat} {l : NL} {x : NStep} {v : Value} {F : Nat} (hv : StepIn w R v x) (hR : ¬ R b) (hm : w.ownsMap Tryz.prog 9 (plainElem Tryz.prog 3) b l.length (nameD l)) (hx : StepOk F x) (hF : F < 9223372036854775808) (hl : l.length < maxLen) (hn : NamesOk l F) : DoesStep v x b l w := by
  have hk : ∀ {k : List UInt8}, NameOk k → k.length ≤ maxLen := fun h => by have : _ ≤ 64 := h.2.1; unfold maxLen; omega
  cases x with
  | create k n => exact create_does hv hm (hk hx.2) (by have := hx.1; omega) hl
  | rename f t => exact rename_does hv hR hm (hk hx.1) (hk hx.2) hl (fun p hp => by have := (hn.each p hp).1; omega)
  | remove k => exact remove_does hv hm (hk hx)
theorem steps_len (l : NL) (xs : List NStep) : (xs.foldl doStep l).length ≤ l.length + xs.length := by
  induction xs generalizing l with
  | nil => simp
  | cons x r ih =>
    have := ih (doStep l x)
    have := doStep_le l x
    simp only [List.foldl_cons, List.length_cons]
    omega


end Go.Proofs.YtehmnmpkfbginaaGreat
/- Disk: Stop: the map of the bytes. -/
namespace Go.Proofs.YtehmnmpkfbginaaGreat
open Go.RowKit Go.Maps Go.Shelf

/-- how a slice that begins at its block's begin reads as an element of a map -/
def slcElem : Value → Option (DataW Unit × List MemPlace)
  | .slice none n c => some (.agg [.lit (.int .i64 (n : Int)), .lit (.int .i64 (c : Int))], [])
  | .slice (some ⟨b, 0, none⟩) n c => some (.agg [.lit (.int .i64 (b : Int)), .lit (.int .i64 (n : Int)), .lit (.int .i64 (c : Int))], [])
  | _ => none
theorem slcElem_inj {v u : Value} {y : DataW Unit} {ps qs : List MemPlace} (h1 : slcElem v = some (y, ps)) (h2 : slcElem u = some (y, qs)) : v = u := by
  unfold slcElem at h1 h2
  split at h1
  · split at h2
    · simp at h1 h2
      obtain ⟨h1, _⟩ := h1; obtain ⟨h2, _⟩ := h2
      rw [← h1] at h2
      simp at h2
      obtain ⟨e1, e2⟩ := h2
      rw [Int.natCast_inj.1 e1, Int.natCast_inj.1 e2]
    · simp at h1 h2
      obtain ⟨h1, _⟩ := h1; obtain ⟨h2, _⟩ := h2
      rw [← h1] at h2
      simp at h2
    · cases h2
  · split at h2
    · simp at h1 h2
      obtain ⟨h1, _⟩ := h1; obtain ⟨h2, _⟩ := h2
      rw [← h1] at h2
      simp at h2
    · simp at h1 h2
      obtain ⟨h1, _⟩ := h1; obtain ⟨h2, _⟩ := h2
      rw [← h1] at h2
      simp at h2
      obtain ⟨e1, e2, e3⟩ := h2
      rw [Int.natCast_inj.1 e1, Int.natCast_inj.1 e2, Int.natCast_inj.1 e3]
    · cases h2
  · cases h1
theorem slcElem_inv {v : Value} {y : DataW Unit × List MemPlace} (h : slcElem v = some y) : ∃ a n c, v = .slice a n c := by
  unfold slcElem at h
  split at h
  · exact ⟨_, _, _, rfl⟩
  · exact ⟨_, _, _, rfl⟩
  · cases h
theorem BytesIn.elem {w : World} {R : Nat → Prop} {v : Value} {l : List UInt8} (h : BytesIn w R v l) : ∃ y, slcElem v = some (y, []) := by
  obtain ⟨a, c, rfl, _, _, _, _, h5, _⟩ := h
  cases a with
  | none => exact ⟨_, rfl⟩
  | some x =>
    rw [h5 x rfl]
    exact ⟨_, rfl⟩

/-- a map from files' numbers to slices -/
def DatMap (W : World) (md n : Nat) (g : Nat → Option Value) : Prop :=
  ∃ D, W.ownsMap Tryz.prog 3 slcElem md n D ∧ (∀ f : Nat, has D (.int .i64 (f : Int)) = (g f).isSome) ∧ ∀ (f : Nat) v, g f = some v → ∃ y ps, slcElem v = some (y, ps) ∧ ∀ zd, D.atKey (.int .i64 (f : Int)) zd = y
theorem DatMap.of_chg {O : Nat → Prop} {W W' : World} {md n : Nat} {g : Nat → Option Value} (h : DatMap W md n g) (hc : Chg O W W') (hO : ¬ O md) : DatMap W' md n g := by
  obtain ⟨D, h1, h2, h3⟩ := h
  exact ⟨D, hc.map h1 hO, h2, h3⟩
theorem DatMap.lt {W : World} {md n : Nat} {g : Nat → Option Value} (h : DatMap W md n g) : md < W.heap.size := by obtain ⟨D, h1, _⟩ := h; exact h1.lt
theorem DatMap.made (w : World) : DatMap (w.alloc (.map #[] 0)) w.heap.size 0 (fun _ => none) :=
  ⟨.map [], World.ownsMap_made w _ _ _, fun _ => rfl, fun f v h => by cases h⟩
theorem key_i64 {f : Nat} (hf : f < 9223372036854775808) : keyOf Tryz.prog 3 (.int .i64 (f : Int)) = some (.int .i64 (f : Int)) := keyOf_int_mk Tryz.underlying3 (wf_i64 (by omega) (by omega))
theorem zero_slc : ∀ w, (zeroValue 42).run Tryz.prog w = .ok (.slice none 0 0) w := Tryz.zeroValue42

end Go.Proofs.YtehmnmpkfbginaaGreat
/- Disk: Stop: the second loop: the bytes that last, of the files that names lead to. -/
namespace Go.Proofs.YtehmnmpkfbginaaGreat
open Go.RowKit Go.Maps Go.Shelf

theorem Chg.ranges {O : Nat → Prop} {w w' : World} (hc : Chg O w w') {P : Program} {k : TypeId} {R : Value → Option (DataW Unit × List MemPlace)} {b r n : Nat} {D : DataW Unit} {left : Lit → Bool} {cnt : Nat} (h : w.ranges P k R b r n D left cnt) (hb : ¬ O b) (hr : ¬ O r) : w'.ranges P k R b r n D left cnt := by
  obtain ⟨es, clock, since, seen, c0, h1, F, hs, hD, h2, rest⟩ := h
  exact ⟨es, clock, since, seen, c0, hc.obj h1 hb, F, hs, hD, hc.obj h2 hr, rest⟩
theorem ranges_owns {w : World} {P : Program} {k : TypeId} {R : Value → Option (DataW Unit × List MemPlace)} {b r n : Nat} {D : DataW Unit} {left : Lit → Bool} {cnt : Nat} (h : w.ranges P k R b r n D left cnt) : w.ownsMap P k R b n D := by
  obtain ⟨es, clock, since, seen, c0, h1, F, hs, hD, h2, rest⟩ := h
  exact ⟨es, clock, h1, F, hs, hD⟩
theorem DatMap.mono {W : World} {md n m : Nat} {g : Nat → Option Value} (h : DatMap W md n g) (hn : n ≤ m) : DatMap W md m g := by
  obtain ⟨D, h1, h2, h3⟩ := h
  exact ⟨D, h1.mono hn, h2, h3⟩
/-- the slice in which a file's lasting bytes lie -/
def SureV (w : World) (R : Nat → Prop) (fb : List Nat) (s : DSt) (f : Nat) (v : Value) : Prop := ∃ b vd e, fb[f]? = some b ∧ w.heap[b]? = some (.cells #[vd, v] e (0, 0)) ∧ BytesIn w R v (s.lasts f)
/-- a name that was met leads to the file -/
def metBy (L : NL) (left : Lit → Bool) (f : Nat) : Bool := L.any fun q => !left (.string q.1) && q.2 == f


end Go.Proofs.YtehmnmpkfbginaaGreat
/- Disk: Stop: the third loop: the writes that are kept. -/
namespace Go.Proofs.YtehmnmpkfbginaaGreat
open Go.RowKit Go.Maps Go.Shelf
attribute [local go_sem] run_store_func

/-- the writes that are kept, among the first k -/
def keptP (L : NL) (keep : List Bool) (ps : List (Wv × Wr)) (k : Nat) : List (Wv × Wr) := ((ps.zipIdx.take k).filter fun q => leadsTo L q.1.2.file && keep.getD q.2 false).map (·.1)
theorem keptP_succ {L : NL} {keep : List Bool} {ps : List (Wv × Wr)} {k : Nat} {x : Wv × Wr} (hx : ps[k]? = some x) : keptP L keep ps (k + 1) = keptP L keep ps k ++ (if leadsTo L x.2.file && keep.getD k false then [x] else []) := by
  unfold keptP
  have hz : ps.zipIdx[k]? = some (x, k) := by simp [hx]
  rw [List.take_add_one, hz, List.filter_append, List.map_append]
  congr 1
  simp only [Option.toList_some, List.filter_cons, List.filter_nil]
  split <;> simp_all
theorem keptP_len (L : NL) (keep : List Bool) (ps : List (Wv × Wr)) (k : Nat) : (keptP L keep ps k).length ≤ k := by
  unfold keptP
  rw [List.length_map]
  exact Nat.le_trans (List.length_filter_le _ _) (by simp; omega)
theorem wv_one (f z : Nat) (c : Bool) (F : FuncId) (C : Array Value) : ∀ u ∈ [Value.int .i64 (f : Int), .int .i64 (z : Int), .bool c, .func (.func F) #[] C], u.oneCell' = true := by
  intro u hu; simp only [List.mem_cons, List.not_mem_nil, or_false] at hu; rcases hu with rfl | rfl | rfl | rfl <;> rfl


end Go.Proofs.YtehmnmpkfbginaaGreat
/- Disk: Stop: the fourth loop: the last kept write that is no cut. -/
namespace Go.Proofs.YtehmnmpkfbginaaGreat
open Go.RowKit Go.Maps Go.Shelf

theorem laid_len (b : List UInt8) (x : Wr) {n m : Nat} (hn : n ≤ x.data.length) (hb : b.length ≤ m) (hx : x.place + x.data.length ≤ m) : (laid b x n).length ≤ m := by
  unfold laid
  split
  · simp; omega
  · split
    · exact hb
    · simp; omega
theorem sizeW_le (last : Option Nat) (torn : Int) (i : Nat) (x : Wr) : sizeW last torn i x ≤ x.data.length := by
  unfold sizeW; split <;> omega
theorem dataW_len {s : DSt} {K : List Wr} {last : Option Nat} {torn : Int} {m : Nat} (h0 : ∀ f, (s.lasts f).length ≤ m) (hK : ∀ x ∈ K, x.place + x.data.length ≤ m) : ∀ i f, (dataW s K last torn i f).length ≤ m
  | 0, f => h0 f
  | i + 1, f => by
    have ih := dataW_len (last := last) (torn := torn) h0 hK i f
    unfold dataW
    split
    · rename_i x hx
      split
      · exact laid_len _ _ (sizeW_le _ _ _ _) ih (hK x (List.mem_of_getElem? hx))
      · exact ih
    · exact ih
/-- the writes that are kept, as they lie -/
def KeptV (w : World) (v : Value) (K : List Wv) : Prop := ∃ a cap, v = .slice a K.length cap ∧ ∀ (k : Nat) x, K[k]? = some x → ∃ g cur t, a = some ⟨g, 0, none⟩ ∧ w.heap[g]? = some (.cells cur t (0, 0)) ∧ ∀ c u, (encW x)[c]? = some u → cur.toList[k * 4 + c]? = some u
theorem KeptV.of_owns {w : World} {base : Nat} {v : Value} {K : List Wv} (h : w.ownsRow base 97 4 v K.length (K.map encW).flatten) : KeptV w v K := by
  rcases h.2 with ⟨hv, hz⟩ | ⟨gw, cap, cur, hv, _, hgw, _, _, _, ht⟩
  · subst hv
    obtain rfl := List.length_eq_zero_iff.1 hz
    exact ⟨none, 0, rfl, fun k x hx => by cases hx⟩
  · refine ⟨_, cap, hv, fun k x hx => ⟨gw, cur, _, rfl, hgw, fun c u hu => ?_⟩⟩
    have := cells_of_flat K cur.toList ht k x hx c u hu
    simpa using this
theorem KeptV.kept {O : Nat → Prop} {w w' : World} {v : Value} {K : List Wv} (h : KeptV w v K) (hc : Chg O w w') (hO : ∀ k, v.ownBlock = some k → ¬ O k) : KeptV w' v K := by
  obtain ⟨a, cap, rfl, h⟩ := h
  refine ⟨a, cap, rfl, fun k x hx => ?_⟩
  obtain ⟨g, cur, t, rfl, hg, hcu⟩ := h k x hx
  exact ⟨g, cur, t, rfl, hc.obj hg (hO g rfl), hcu⟩
def lastI : Option Nat → Int
  | some k => (k : Int)
  | none => -1


end Go.Proofs.YtehmnmpkfbginaaGreat
/- Disk: plain: a stop as the program reckons it is a stop as the model says it. -/
namespace Go.Proofs.YtehmnmpkfbginaaGreat
open Go.RowKit Go.Maps

/-- a region that ends as it should, and how it ends: walked apart, so a round's end is walked once -/
def onlyN (K : Act → World → Prop) : Exit → Act → World → Prop
  | .normal, a, w => K a w
  | _, _, _ => False
theorem wp_onlyN {P : Program} {c : Code} {Q : Exit → Act → World → Prop} {a : Act} {w : World} (K : Act → World → Prop) (h : c.wp P (onlyN K) a w) (hk : ∀ a w, K a w → Q .normal a w) : c.wp P Q a w :=
  wp_mono h fun e a w h => by cases e <;> first | exact hk _ _ h | exact h.elim

/-- is the write x, the k-th, kept? -/
def isK (l : NL) (keep : List Bool) (x : Wr) (k : Nat) : Bool := leadsTo l x.file && keep.getD k false
theorem keptW_succ {s : DSt} {l : NL} {keep : List Bool} {i : Nat} {x : Wr} (hx : s.writes[i]? = some x) : keptW s l keep (i + 1) = keptW s l keep i ++ (if isK l keep x i then [x] else []) := by
  unfold keptW isK
  have hz : s.writes.zipIdx[i]? = some (x, i) := by simp [hx]
  rw [List.take_add_one, hz, List.filter_append, List.map_append]
  congr 1
  simp only [Option.toList_some, List.filter_cons, List.filter_nil]
  split <;> simp_all
theorem keptW_pre (s : DSt) (l : NL) (keep : List Bool) {i j : Nat} (h : i ≤ j) : ∃ r, keptW s l keep j = keptW s l keep i ++ r := by
  induction j with
  | zero => obtain rfl : i = 0 := by omega
            exact ⟨[], by simp⟩
  | succ j ih =>
    by_cases hij : i = j + 1
    · subst hij; exact ⟨[], by simp⟩
    · obtain ⟨r, hr⟩ := ih (by omega)
      cases hx : s.writes[j]? with
      | none =>
        refine ⟨r, ?_⟩
        rw [← hr]; unfold keptW
        have : s.writes.length ≤ j := by simpa using hx
        rw [List.take_of_length_le (by simp; omega), List.take_of_length_le (by simp; omega)]
      | some x => rw [keptW_succ hx, hr]; exact ⟨_, List.append_assoc _ _ _⟩
theorem keptW_get {s : DSt} {l : NL} {keep : List Bool} {i j : Nat} {x : Wr} (hx : s.writes[i]? = some x) (hk : isK l keep x i = true) (hij : i < j) : (keptW s l keep j)[(keptW s l keep i).length]? = some x := by
  obtain ⟨r, hr⟩ := keptW_pre s l keep (i := i + 1) (j := j) (by omega)
  rw [hr, keptW_succ hx, hk]
  simp
theorem keptAt_eq {s : DSt} {l : NL} {keep : List Bool} {k : Nat} {x : Wr} (hx : s.writes[k]? = some x) : keptAt s l keep k = isK l keep x k := by
  unfold keptAt isK; rw [hx, Bool.and_comm]
theorem keptW_lt {s : DSt} {l : NL} {keep : List Bool} {i j : Nat} {x : Wr} (hx : s.writes[i]? = some x) (hk : isK l keep x i = true) (hij : i < j) : (keptW s l keep i).length < (keptW s l keep j).length := by
  have := keptW_get hx hk hij
  exact (List.getElem?_eq_some_iff.1 this).1

/-- the last in the one reckoning and in the other -/
def SameLast (s : DSt) (l : NL) (keep : List Bool) : Option Nat → Option Nat → Prop
  | none, none => True
  | some j, some k => (keptW s l keep k).length = j ∧ ∃ x, s.writes[k]? = some x ∧ isK l keep x k = true
  | _, _ => False
theorem lastW_congr {K K' : List Wr} : ∀ n : Nat, (∀ k, k < n → K[k]? = K'[k]?) → lastW K n = lastW K' n
  | 0, _ => rfl
  | n + 1, h => by
    unfold lastW
    rw [h n (by omega), lastW_congr n (fun k hk => h k (by omega))]
theorem same_last (s : DSt) (l : NL) (keep : List Bool) : ∀ i, i ≤ s.writes.length → SameLast s l keep (lastW (keptW s l keep i) (keptW s l keep i).length) (lastKept s l keep i)
  | 0, _ => by simp [keptW, lastW, lastKept, SameLast]
  | i + 1, hi => by
    have ih := same_last s l keep i (by omega)
    obtain ⟨x, hx⟩ : ∃ x, s.writes[i]? = some x := ⟨s.writes[i]'(by omega), by simp⟩
    unfold lastKept
    rw [keptAt_eq hx, keptW_succ hx, hx]
    simp only []
    cases hk : isK l keep x i
    · simp only [Bool.false_and, Bool.false_eq_true, if_false, List.append_nil]; exact ih
    · simp only [if_true, Bool.true_and, List.length_append, List.length_cons, List.length_nil]
      unfold lastW
      have hg : (keptW s l keep i ++ [x])[(keptW s l keep i).length]? = some x := by simp
      simp only [hg, Option.map_some, Option.getD_some]
      cases hc : x.cut
      · simp only [Bool.false_eq_true, if_false, Bool.not_false, if_true]
        exact ⟨rfl, x, hx, hk⟩
      · simp only [if_true, Bool.not_true, Bool.false_eq_true, if_false]
        rw [lastW_congr (K' := keptW s l keep i) _ (fun k hk => by rw [List.getElem?_append_left hk])]
        exact ih
theorem size_laid {s : DSt} {l : NL} {keep : List Bool} {a b : Option Nat} (h : SameLast s l keep a b) {i : Nat} {x : Wr} (hx : s.writes[i]? = some x) (hk : isK l keep x i = true) (torn : Int) : sizeW a torn (keptW s l keep i).length x = laidOf b torn i x := by
  have hiff : a = some (keptW s l keep i).length ↔ b = some i := by
    cases a <;> cases b <;> simp only [SameLast] at h
    · simp
    · rename_i j k
      obtain ⟨h1, y, hy, hyk⟩ := h
      simp only [Option.some.injEq]
      constructor
      · intro e
        rcases Nat.lt_trichotomy k i with hlt | heq | hgt
        · have := keptW_lt hy hyk hlt; omega
        · exact heq
        · have := keptW_lt hx hk hgt; omega
      · rintro rfl; omega
  unfold sizeW laidOf
  by_cases h1 : b = some i
  · have h2 := hiff.2 h1
    by_cases h3 : 0 ≤ torn
    · by_cases h4 : torn < x.data.length
      · rw [if_pos ⟨h2, h3⟩, if_pos ⟨h1, h3, h4⟩]; omega
      · rw [if_pos ⟨h2, h3⟩, if_neg (fun h => h4 h.2.2)]; omega
    · rw [if_neg (fun h => h3 h.2), if_neg (fun h => h3 h.2.1)]
  · rw [if_neg (fun h => h1 (hiff.1 h.1)), if_neg (fun h => h1 h.1)]
theorem data_is {s : DSt} {l : NL} {keep : List Bool} (torn : Int) {f : Nat} (hf : leadsTo l f = true) : ∀ i, i ≤ s.writes.length →
    dataW s (keptW s l keep s.writes.length) (lastW (keptW s l keep s.writes.length) (keptW s l keep s.writes.length).length) torn (keptW s l keep i).length f = stopFile s keep (lastKept s l keep s.writes.length) torn f i
  | 0, _ => by simp [keptW, dataW, stopFile]
  | i + 1, hi => by
    have ih := data_is (s := s) torn hf (keep := keep) i (by omega)
    obtain ⟨x, hx⟩ : ∃ x, s.writes[i]? = some x := ⟨s.writes[i]'(by omega), by simp⟩
    have hlen := congrArg List.length (keptW_succ (l := l) (keep := keep) hx)
    unfold stopFile
    simp only [hx]
    rw [hlen]
    cases hk : isK l keep x i
    · simp only [Bool.false_eq_true, if_false, List.append_nil]
      rw [ih]
      have hne : (keep.getD i false && x.file == f) = false := by
        unfold isK at hk
        cases hkk : keep.getD i false
        · rfl
        · rw [hkk, Bool.and_true] at hk
          cases hxf : x.file == f
          · rfl
          · rw [beq_iff_eq] at hxf; subst hxf; rw [hf] at hk; cases hk
      rw [hne]
      rfl
    · simp only [if_true, List.length_append, List.length_cons, List.length_nil]
      have hkk : keep.getD i false = true := by unfold isK at hk; simp at hk; simpa using hk.2
      rw [show (keptW s l keep i).length + (0 + 1) = (keptW s l keep i).length + 1 from rfl]
      conv => lhs; unfold dataW
      rw [keptW_get (j := s.writes.length) hx hk (by omega)]
      simp only []
      rw [size_laid (same_last s l keep s.writes.length (Nat.le_refl _)) hx hk, ih, hkk]
      by_cases hxf : x.file = f
      · simp [hxf]
      · have : (x.file == f) = false := by simpa using hxf
        simp [hxf]

/-- the files behind a stop, as the program reckons them -/
theorem stop_is (s : DSt) (names : Int) (keep : List Bool) (torn : Int) :
    s.stop names keep torn = DSt.ofFiles s.room ((stopNames s names).map fun p => (p.1, dataW s (keptW s (stopNames s names) keep s.writes.length) (lastW (keptW s (stopNames s names) keep s.writes.length) (keptW s (stopNames s names) keep s.writes.length).length) torn (keptW s (stopNames s names) keep s.writes.length).length p.2)) := by
  unfold DSt.stop
  simp only []
  congr 1
  refine List.map_congr_left fun p hp => ?_
  rw [data_is torn (by unfold leadsTo; rw [List.any_eq_true]; exact ⟨p, hp, by simp⟩) _ (Nat.le_refl _)]

end Go.Proofs.YtehmnmpkfbginaaGreat
