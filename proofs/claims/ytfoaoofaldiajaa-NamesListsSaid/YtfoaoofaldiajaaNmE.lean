/- Walks of the names layer: Each makes its closure. -/
import Derived.Test.YtfoaoofaldiajaaNmU
namespace Go.Proofs.Ytfoaoofaldiajaa
open Go.RowKit Go.Maps

theorem boxed_below {w w' : World} {b : Nat} {t : TypeId} {v : Value} (h : Boxed w b t v) {B : Nat} (hb : Below B w w') (hlt : b < B) : Boxed w' b t v := (hb.block b hlt).trans h

set_option maxRecDepth 100000 in
set_option maxHeartbeats 1000000 in
theorem Each_any (kind : Int) (a : Option Addr) (cap : Nat) (L : List (List UInt8)) (w : World) (hL : L.length ≤ 1000000000) (hnil : a = none → cap = 0) (hrow : RowAt w a (L.map sv)) :
    Calls Try.prog 10 #[.int .i64 kind, .slice a L.length cap] w fun e w' => ∃ ns b5 b3 b6 v a' cap' mb nn D, e = .returned (.func (.func 24) #[] #[.pointer (some ⟨b5, 0, none⟩), .pointer (some ⟨b3, 0, none⟩), .pointer (some ⟨b6, 0, none⟩)]) ∧
      EachAt kind L ns w.heap.size w'.heap.size w' b5 b3 b6 v a' cap' mb nn D ∧ Below w.heap.size w w' := by
  have hmf : ∀ (fn : Fn) (first cap : Array Value) (w : World), (Instr.makeFunc fn first cap).run Try.prog w = .ok (.func fn first cap) w := fun _ _ _ _ => rfl
  have hB := Boxed.new w 22 (.slice a L.length cap)
  have cl := Clone_any a cap L (w.alloc (.cells #[.slice a L.length cap] 22)) hL hnil (hrow.below ((Below.refl _ _).alloc (Nat.le_refl _) _))
  go_enter Try.func10, Try.ntmps10
  go_wp2_with fail
  refine cl.mono ?_
  rintro _ w1 ⟨a', cap', rfl, hnil1, hrow1, hb1, hlo1⟩
  clear cl
  have hB1 := boxed_below hB hb1 (by simp)
  have hs1 := hb1.size
  simp only [World.size_alloc] at hs1 hlo1
  have hc1 := hB1.cell
  have hf1 := hB1.frozen
  clear hrow
  have hset := Boxed.set (.slice a' L.length cap') hB1
  have hrow2 : RowAt (w1.setCell ⟨w.heap.size, 0, none⟩ (.slice a' L.length cap')) a' (L.map sv) := hrow1.kept fun b _ ⟨off, sp, e⟩ => Below.heap_setCell _ _ _ _ (by have := (hlo1 b off sp e).1; show b ≠ w.heap.size; omega)
  have hb2 : Below w.heap.size w (w1.setCell ⟨w.heap.size, 0, none⟩ (.slice a' L.length cap')) := (((Below.refl _ _).alloc (Nat.le_refl _) _).trans (hb1.mono (by simp))).setCell (p := ⟨w.heap.size, 0, none⟩) (Nat.le_refl _) _
  by_cases hk : 0 < kind ∧ kind ≤ 4
  · have hof := of_good kind a' cap' L (w1.setCell ⟨w.heap.size, 0, none⟩ (.slice a' L.length cap')) hk.1 hk.2 hL hrow2
    have HK := Lib.hid hk; clear hk
    go_wp2_with fail
    refine hof.mono ?_
    rintro _ w3 ⟨v, ss, rfl, hp, hr, hown, hnil3, hb3⟩
    clear hof
    have hs3 := hb3.size
    have hsz : (w1.setCell ⟨w.heap.size, 0, none⟩ (.slice a' L.length cap')).heap.size = w1.heap.size := by simp [World.setCell]
    rw [hsz] at hr hs3 hown hb3
    generalize hW2 : w1.setCell ⟨w.heap.size, 0, none⟩ (.slice a' L.length cap') = w2 at *
    have HW := Lib.hid hW2; clear hW2
    have hnum := isNums_of HK.out.1 HK.out.2 hown hp
    generalize hns : ss.mergeSort (fun x y => decide (x ≤ y)) = ns at hr hnum
    have hlen : ns.length = ss.length := by rw [← hns]; exact List.length_mergeSort _
    have HN := Lib.hid hns; clear hns
    obtain ⟨sa, sc, rfl, _, _⟩ := RowAt.of_owns hr
    go_wp2
    go_ret
    have hb4 : Below w.heap.size w ((w3.alloc (.cells #[.slice sa ss.length sc] 24)).alloc (.cells #[.map (some w1.heap.size)] 52)) :=
      (((hb2.trans (hb3.mono (by omega))).alloc (by omega) _).alloc (by simp; omega) _)
    have hx : Below w3.heap.size w3 ((w3.alloc (.cells #[.slice sa ss.length sc] 24)).alloc (.cells #[.map (some w1.heap.size)] 52)) := ((Below.refl _ _).alloc (Nat.le_refl _) _).alloc (by simp) _
    refine ⟨ns, w3.heap.size, w.heap.size, w3.heap.size + 1, .slice sa ss.length sc, a', cap', w1.heap.size, L.length, numMap kind L L.length, rfl, ?_, hb4⟩
    have hmem := hnum.2
    obtain ⟨_, hmk⟩ := mem_intKeys hown (Maps.int_keyed Try.underlying2) Try.underlying2
    have HIR : ∀ g, (Value.slice sa ss.length sc).ownBlock = some g → g < ((w3.alloc (.cells #[.slice sa ss.length sc] 24)).alloc (.cells #[.map (some w1.heap.size)] 52)).heap.size := fun g hg => by
      have := (hr.lt g hg).2; simp; omega
    exact {
      box5 := boxed_below (Boxed.new w3 _ _) (B := w3.heap.size + 1) ((Below.refl _ _).alloc (by simp) _) (by omega)
      box3 := boxed_below (boxed_below hset hb3 (by omega)) hx (by omega)
      box6 := by have := Boxed.new (w3.alloc (.cells #[.slice sa ss.length sc] 24)) 52 (.map (some w1.heap.size)); rwa [World.size_alloc] at this
      row := by rw [hlen]; exact ownsRow_base_le ((hr.alloc _).alloc _) (by omega)
      names := ((hrow2.below (hb3.mono (by omega))).below hx)
      map := (hown.alloc _).alloc _
      num := hnum
      leads := fun x hx zd => at_numMap kind L x zd _ (Nat.le_refl _) ((has_numMap_mem kind L x).2 ((hmem x).1 hx).2)
      lo5 := by omega
      lo3 := Nat.le_refl _
      lo6 := by omega
      lom := by omega
      loa := fun b off sp e => by have := (hlo1 b off sp e).1; omega
      hi5 := by simp; omega
      hi3 := by simp; omega
      hi6 := by simp
      him := by simp; omega
      hia := fun b off sp e => by have := (hlo1 b off sp e).2; simp; omega
      hir := fun g hg => HIR g hg
      size := Nat.le_refl _ }
  · have hof := of_bad kind (.slice a' L.length cap') (w1.setCell ⟨w.heap.size, 0, none⟩ (.slice a' L.length cap')) (by omega)
    have HK := Lib.hid hk; clear hk
    go_wp2_with fail
    refine hof.mono ?_
    rintro _ w3 ⟨rfl, hw3⟩
    clear hof
    have hsz : (w1.setCell ⟨w.heap.size, 0, none⟩ (.slice a' L.length cap')).heap.size = w1.heap.size := by simp [World.setCell]
    rw [hsz]
    generalize hW2 : w1.setCell ⟨w.heap.size, 0, none⟩ (.slice a' L.length cap') = w2 at *
    have HW := Lib.hid hW2; clear hW2
    have hown : w3.ownsMap (H := Unit) Try.prog 2 (plainElem Try.prog 3) w1.heap.size 0 (.map []) := by
      rw [hw3, ← hsz]; exact World.ownsMap_made _ _ _ _
    have hb3 : Below w2.heap.size w2 w3 := by rw [hw3]; exact (Below.refl _ _).alloc (Nat.le_refl _) _
    have hs3 := hb3.size
    rw [hsz] at hs3 hb3
    have HW3 := Lib.hid hw3; clear hw3
    go_wp2
    go_ret
    have hb4 : Below w.heap.size w ((w3.alloc (.cells #[.slice none 0 0] 24)).alloc (.cells #[.map (some w1.heap.size)] 52)) :=
      (((hb2.trans (hb3.mono (by omega))).alloc (by omega) _).alloc (by simp; omega) _)
    have hx : Below w3.heap.size w3 ((w3.alloc (.cells #[.slice none 0 0] 24)).alloc (.cells #[.map (some w1.heap.size)] 52)) := ((Below.refl _ _).alloc (Nat.le_refl _) _).alloc (by simp) _
    refine ⟨[], w3.heap.size, w.heap.size, w3.heap.size + 1, .slice none 0 0, a', cap', w1.heap.size, 0, .map [], rfl, ?_, hb4⟩
    have HIR : ∀ g, (Value.slice none 0 0).ownBlock = some g → g < ((w3.alloc (.cells #[.slice none 0 0] 24)).alloc (.cells #[.map (some w1.heap.size)] 52)).heap.size := fun g hg => by cases hg
    exact {
      box5 := boxed_below (Boxed.new w3 _ _) (B := w3.heap.size + 1) ((Below.refl _ _).alloc (by simp) _) (by omega)
      box3 := boxed_below (boxed_below hset hb3 (by omega)) hx (by omega)
      box6 := by have := Boxed.new (w3.alloc (.cells #[.slice none 0 0] 24)) 52 (.map (some w1.heap.size)); rwa [World.size_alloc] at this
      row := World.ownsRow_nil _ _ _ _
      names := ((hrow2.below (hb3.mono (by omega))).below hx)
      map := (hown.alloc _).alloc _
      num := ⟨List.Pairwise.nil, fun x => by simp [HK.out]⟩
      leads := fun x hx => by cases hx
      lo5 := by omega
      lo3 := Nat.le_refl _
      lo6 := by omega
      lom := by omega
      loa := fun b off sp e => by have := (hlo1 b off sp e).1; omega
      hi5 := by simp; omega
      hi3 := by simp; omega
      hi6 := by simp
      him := by simp; omega
      hia := fun b off sp e => by have := (hlo1 b off sp e).2; simp; omega
      hir := fun g hg => HIR g hg
      size := Nat.le_refl _ }

end Go.Proofs.Ytfoaoofaldiajaa
