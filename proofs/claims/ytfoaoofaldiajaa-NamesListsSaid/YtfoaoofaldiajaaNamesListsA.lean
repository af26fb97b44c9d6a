/- NamesLists, the lemmas: any names of any kind: their numbers, gone over, left, once more, while the list is written over. -/
import Derived.Test.YtfoaoofaldiajaaNmV
import Derived.Test.YtfoaoofaldiajaaNmK
import Derived.RangeFuncFrom
import Derived.Test.YtfoaoofaldiajaaQuiet
namespace Go.Proofs.Ytfoaoofaldiajaa
open Go.RowKit Go.Maps Go.Shelf
attribute [local go_sem] Oper.semAt_some

/-- what stays while the lists are written over -/
structure Stays (b0 b3 b8 : Nat) (w w8 W : World) : Prop where
  k1 : KpIn b3 b8 w8 W
  k2 : KpIn b0 (b0 + 3) w8 W
  bel : Below b0 w W
theorem Stays.setCell {b0 b3 b8 : Nat} {w w8 W : World} (h : Stays b0 b3 b8 w w8 W) (p : Addr) (h1 : b0 + 3 ≤ p.block) (h2 : p.block < b3) (v : Value) : Stays b0 b3 b8 w w8 (W.setCell p v) :=
  ⟨h.k1.setCell p (.inl h2) v, h.k2.setCell p (.inr h1) v, h.bel.setCell (by omega) v⟩

theorem Stays.from {b0 b3 b8 B : Nat} {w w8 W W' : World} {row : Option Nat} (h : Stays b0 b3 b8 w w8 W) (hg : W.grownBy W' row) (h1 : b0 + 3 ≤ B) (h2 : b8 ≤ B) (hb : b0 ≤ w.heap.size) (hr : ∀ r, row = some r → B ≤ r ∧ ∃ o : Obj, W.heap[r]? = some o ∧ o.isCells = false) (hw : b8 ≤ W.heap.size) (hw0 : b0 + 3 ≤ W.heap.size) : Stays b0 b3 b8 w w8 W' :=
  ⟨h.k1.trans ⟨hg.size, fun b l1 l2 => hg.block b (by omega) (fun e => by have := (hr b e.symm).1; omega)⟩, h.k2.trans ⟨hg.size, fun b l1 l2 => hg.block b (by omega) (fun e => by have := (hr b e.symm).1; omega)⟩,
   h.bel.grown hg (Nat.le_trans hb h.bel.size) fun k e => by have := (hr k e).1; omega⟩
theorem Stays.below {b0 b3 b8 : Nat} {w w8 W W' : World} (h : Stays b0 b3 b8 w w8 W) (hb : Below W.heap.size W W') (hw : b8 ≤ W.heap.size) (hw0 : b0 + 3 ≤ W.heap.size) : Stays b0 b3 b8 w w8 W' :=
  ⟨h.k1.trans (KpIn.of_below (hb.mono hw)), h.k2.trans (KpIn.of_below (hb.mono hw0)), h.bel.trans (hb.mono (by omega))⟩
theorem Stays.alloc {b0 b3 b8 : Nat} {w w8 W : World} (h : Stays b0 b3 b8 w w8 W) (hw : b8 ≤ W.heap.size) (hw0 : b0 + 3 ≤ W.heap.size) (o : Obj) : Stays b0 b3 b8 w w8 (W.alloc o) :=
  h.below ((Below.refl _ _).alloc (Nat.le_refl _) o) hw hw0
theorem Stays.late {b0 b3 b8 : Nat} {w w8 W : World} (h : Stays b0 b3 b8 w w8 W) (p : Addr) (h1 : b0 + 3 ≤ p.block) (h2 : b8 ≤ p.block) (v : Value) : Stays b0 b3 b8 w w8 (W.setCell p v) :=
  ⟨h.k1.setCell p (.inr h2) v, h.k2.setCell p (.inr h1) v, h.bel.setCell (by omega) v⟩

theorem func_nil (w : World) (f : Fn) (x y : Array Value) : (binOp .eql 31 (.func f x y) .nilFunc).run Try.prog w = .ok (.bool false) w := by
  kernel_rfl

def markL : List UInt8 := [109, 97, 114, 107]

set_option maxRecDepth 100000 in
set_option maxHeartbeats 1000000 in
theorem namesLists_long (kind leave : Int) (a : Option Addr) (cap n : Nat) (w : World) (hL : 300 < n) (hm : n ≤ maxLen) :
    Calls Try.prog 3 #[.int .i64 kind, .slice a n cap, .int .i64 leave] w fun e w' => e = .returned (.bool true) ∧ Below w.heap.size w w' := by
  unfold maxLen at hm
  have hq : decide ((300 : Int) < n) = true := by simp; omega
  go_enter Try.func3, Try.ntmps3
  go_wp2_with fail
  refine (known_any _).mono ?_
  rintro e w1 ⟨rfl, hb1⟩
  have h6 : Boxed w1 (w.heap.size + 1 + 1) 4 (.bool false) := boxed_below (by have := Boxed.new ((w.alloc (.cells #[.int .i64 kind] 3)).alloc (.cells #[.int .i64 leave] 3)) 4 (.bool false); rwa [World.size_alloc, World.size_alloc] at this) hb1 (by simp)
  have c6 := h6.cell
  have f6 := h6.frozen
  have h7 := (Boxed.set (.bool true) h6).cell
  have hb2 : Below w.heap.size w (w1.setCell ⟨w.heap.size + 1 + 1, 0, none⟩ (.bool true)) := ((((((Below.refl _ _).alloc (Nat.le_refl _) _).alloc (by simp) _).alloc (by simp; omega) _)).trans (hb1.mono (by simp; omega))).setCell (p := ⟨w.heap.size + 1 + 1, 0, none⟩) (by show w.heap.size ≤ w.heap.size + 1 + 1; omega) _
  go_wp2
  exact bodyPost_ret (v := .bool true) (by simp [results, Try.results3, go_sem, h7]) rfl ⟨rfl, hb2⟩


end Go.Proofs.Ytfoaoofaldiajaa
