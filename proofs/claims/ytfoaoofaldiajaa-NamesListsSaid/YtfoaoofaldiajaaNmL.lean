/- Walks of the names layer: Last. -/
import Derived.Test.YtfoaoofaldiajaaNmI
import Derived.RangeFuncFrom
namespace Go.Proofs.Ytfoaoofaldiajaa
open Go.RowKit Go.Maps Go.Shelf
attribute [local go_sem] Oper.semAt_some

theorem KpIn.putObj {lo hi : Nat} (W : World) (l : Nat) (o' : Obj) (h : hi ≤ l) : KpIn lo hi W (W.putObj l o') :=
  ⟨by simp, fun b _ h2 => World.putObj_heap_other (by omega)⟩
theorem boxed_from {W W' : World} {row : Option Nat} {B b : Nat} {t : TypeId} {v : Value} (h : Boxed W b t v) (hg : W.grownBy W' row) (hr : ∀ r, row = some r → B ≤ r ∧ ∃ o : Obj, W.heap[r]? = some o ∧ o.isCells = false) : Boxed W' b t v := by
  refine h.kept hg fun e => ?_
  obtain ⟨_, o, ho, hc⟩ := hr b e.symm
  rw [show W.heap[b]? = _ from h] at ho
  cases ho; cases hc
theorem below_from {B : Nat} {w W W' : World} {row : Option Nat} {C : Nat} (h : Below B w W) (hg : W.grownBy W' row) (hB : B ≤ w.heap.size) (hBC : B ≤ C) (hr : ∀ r, row = some r → C ≤ r ∧ ∃ o : Obj, W.heap[r]? = some o ∧ o.isCells = false) : Below B w W' :=
  h.grown hg (Nat.le_trans hB h.size) fun k e => Nat.le_trans hBC (hr k e).1

theorem IsNums.length_le {kind : Int} {L : List (List UInt8)} {ns : List Int} (h : IsNums kind L ns) : ns.length ≤ L.length := by
  have hsub : ns ⊆ L.map (fun l => ((parse l).2 : Int)) := by
    intro x hx
    obtain ⟨_, l, hl, _, h2⟩ := (h.2 x).1 hx
    exact List.mem_map.2 ⟨l, hl, h2⟩
  have := List.Nodup.length_le_of_subset (h.1.imp (fun h => Int.ne_of_lt h)) hsub
  simpa using this
theorem ret_ib {a b : Int} {c d : Bool} (h : a = b) (k : c = d) : Ending.returned (.tuple #[.int .i64 a, .bool c]) = .returned (.tuple #[.int .i64 b, .bool d]) := by rw [h, k]
/-- the last number of a list, or 0 -/
def lastOf (ns : List Int) : Int := ns.getLastD 0

theorem Last_any (kind : Int) (a : Option Addr) (cap : Nat) (L : List (List UInt8)) (w : World) (hL : L.length ≤ 1000000000) (hnil : a = none → cap = 0) (hrow : RowAt w a (L.map sv)) :
    Calls Try.prog 8 #[.int .i64 kind, .slice a L.length cap] w fun e w' => ∃ ns, IsNums kind L ns ∧ e = .returned (.tuple #[.int .i64 (lastOf ns), .bool (!ns.isEmpty)]) ∧ Below w.heap.size w w' := by
  refine (callsIn_wide (n := 6)).1 ?_
  have cE := fun w h => (callsIn_wide (n := 5)).2 (Each_any kind a cap L w hL hnil h)
  refine callsIn_of_wp_marks Try.func8 rfl trivial ?_ rfl
  simp only [Try.ntmps8, List.size_toArray, List.length_cons, List.length_nil, Nat.reduceAdd, Nat.reduceSub, Array.replicate_succ, Array.replicate_zero, List.push_toArray, List.append_toArray, List.nil_append, List.cons_append]
  gi_wp2_with fail
  refine ⟨trivial, ?_⟩
  refine (cE _ ?_).mono ?_
  · exact hrow.below (((Below.refl _ _).alloc (Nat.le_refl _) _).alloc (by simp) _)
  rintro _ w1 ⟨ns, b5, b3, b6, v, a', cap', mb, nn, D, rfl, hE, hb1⟩
  clear cE
  have hs1 := hb1.size
  simp only [World.size_alloc] at hs1
  rw [World.size_alloc, World.size_alloc] at hE
  have hB6 : Boxed w1 w.heap.size 2 (.int .i64 0) := boxed_below ((Boxed.new w _ _).alloc _) hb1 (by simp; omega)
  have hB7 : Boxed w1 (w.heap.size + 1) 4 (.bool false) := boxed_below (by have := Boxed.new (w.alloc (.cells #[.int .i64 0] 2)) 4 (.bool false); rwa [World.size_alloc] at this) hb1 (by simp)
  have hb0 : Below w.heap.size w w1 := (((Below.refl _ _).alloc (Nat.le_refl _) _).alloc (by simp) _).trans (hb1.mono (by simp; omega))
  have hns : ns.length ≤ 1000000000 := Nat.le_trans (IsNums.length_le hE.num) hL
  gi_wp2_with fail
  refine wpIn_rangeFunc_ownF rfl (by omega) (gf := 24) (lb := #[.pointer (some ⟨b5, 0, none⟩), .pointer (some ⟨b3, 0, none⟩), .pointer (some ⟨b6, 0, none⟩)]) rfl trivial (enters_of Try.func24 (by kernel_rfl) rfl)
    (Each1_stops Fence.wide 5 trivial rfl (by omega) kind L ns _ _ b5 b3 b6 v a' cap' mb nn D w1 hE hL hns) (fun h k => h.trans k) (fun W l o o' hl _ _ _ => KpIn.putObj W l o' hl) (Below.refl _ _) (fun _ => rfl)
    (fun pre W => Boxed W w.heap.size 2 (.int .i64 (lastOf (pre.map Prod.fst))) ∧ Boxed W (w.heap.size + 1) 4 (.bool (!pre.isEmpty)) ∧ Below w.heap.size w W) (fun _ _ _ => False)
    (fun s W W' row ⟨h1, h2, h3⟩ hg hr => ⟨boxed_from h1 hg hr, boxed_from h2 hg hr, below_from h3 hg (Nat.le_refl _) (by omega) hr⟩) (fun _ _ _ _ _ h _ _ => h) ⟨hB6, hB7, hb0⟩
    (fun x => { tmps := #[.int .i64 kind, .slice a L.length cap, undef, undef, .int .i64 0, .bool false, .pointer (some ⟨w.heap.size, 0, none⟩), .pointer (some ⟨w.heap.size + 1, 0, none⟩), .int .i64 x.1, .int .i64 kind, .slice a L.length cap, .func (.func 24) #[] #[.pointer (some ⟨b5, 0, none⟩), .pointer (some ⟨b3, 0, none⟩), .pointer (some ⟨b6, 0, none⟩)], .int .i64 x.1, sv x.2, undef, undef, undef], defers := [] }) ?assign ?body ?done ?stop
  case assign => intro l x W K hK; simp only [encs2]; gi_wp2; exact hK
  case body =>
    rintro l pre x W ⟨h1, h2, h3⟩ _
    have c1 := h1.cell; have f1 := h1.frozen; have c2 := h2.cell; have f2 := h2.frozen
    gi_wp2
    have hlast : lastOf ((pre ++ [x]).map Prod.fst) = x.1 := by simp [lastOf]
    have hne : (!(pre ++ [x]).isEmpty) = true := by simp
    have hs3 := h3.size
    refine ⟨(KeepsOthers.setCell _ _ _).trans (KeepsOthers.setCell _ _ _), ((KpIn.refl _ _ _).setCell _ (.inl (by show w.heap.size < _; omega)) _).setCell _ (.inl (by show w.heap.size + 1 < _; omega)) _, ?_, ?_, ?_⟩
    · rw [hlast]; exact (Below.heap_setCell _ _ _ _ (by simp)).trans (Boxed.set _ h1)
    · rw [hne]; exact Boxed.set _ ((Below.heap_setCell _ _ _ _ (by simp)).trans h2)
    · exact (h3.setCell (p := ⟨w.heap.size, 0, none⟩) (Nat.le_refl _) _).setCell (p := ⟨w.heap.size + 1, 0, none⟩) (by simp) _
  case done =>
    rintro Dd xs W hD rfl ⟨h1, h2, h3⟩ hK
    have c1 := h1.cell; have c2 := h2.cell
    gi_wp2
    gi_region
    all_goals gi_wp2
    all_goals
      refine ⟨by simp, .inl ⟨_, _, rfl, run_takeDeferred hK, ?_⟩⟩
      have e1 : (itemsOf kind ns).map Prod.fst = ns := by simp [itemsOf, itemOf, Function.comp_def]
      have e2 : (itemsOf kind ns).isEmpty = ns.isEmpty := by cases ns <;> rfl
      have hbel : Below w.heap.size w (W.drew.putObj Dd (.deferred none)) := h3.drew.trans ⟨rfl, rfl, rfl, by simp, fun b hb => World.putObj_heap_other (by omega)⟩
      exact ⟨_, results_tmp2 (t := 4) (u := 5) rfl _ _ _, ns, hE.num, ret_ib (a := lastOf ((itemsOf kind ns).map Prod.fst)) (b := lastOf ns) (c := !(itemsOf kind ns).isEmpty) (d := !ns.isEmpty) (by rw [e1]) (by rw [e2]), hbel⟩
  case stop =>
    rintro Dd c pre W _ _ h _
    exact h.elim

end Go.Proofs.Ytfoaoofaldiajaa
