/- Texts of this claim, one behind the other: Shj, Shm, Shn, Sho, Shp, Shq, Opb. -/
import Derived.Test.YtlmdpcaikhdenaaGreatSl27
import Derived.Test.YtlmdpcaikhdenaaGreatSl01
import Derived.Test.YtlmdpcaikhdenaaGreatSl28
import Derived.Test.YtlmdpcaikhdenaaGreatSl16
import Derived.Test.YtlmdpcaikhdenaaGreatSl17
import Derived.Deep.SlicePairs
import Derived.Deep.Grids
set_option linter.unusedSimpArgs false
set_option linter.unusedVariables false
/- Segment: Read, over any device whose Scan is known. -/
namespace Go.Proofs.YtlmdpcaikhdenaaGreat
open Go.RowKit Go.Maps Go.Shelf
attribute [local go_sem] Oper.semAt_some

theorem chg_putObj6 (W : World) (l : Nat) (o : Obj) : Chg (· = l) W (W.putObj l o) := ⟨rfl, rfl, rfl, by simp [World.putObj], fun k _ hk => World.putObj_heap_other hk⟩
/-- what Read answers, of what Scan answers -/
def readE17 (f n : Int) (r : SegV × Nat) : List UInt8 × Nat :=
  if f < 0 ∨ 4611686018427387904 < f ∨ n < f then ([], 4)
  else if r.2 ≠ 0 then ([], r.2)
  else if n - f < (tellsN r.1.first r.1.entries.length : Int) then (r.1.entries.getD (n - f).toNat [], 0) else ([], 4)
def ReadPost17 (w : World) (r : List UInt8 × Nat) (e : Ending) (w' : World) : Prop :=
  ∃ U, e = .returned (.tuple #[U, .int .i64 (r.2 : Int)]) ∧ BytesIn w' (fun b => w.heap.size ≤ b) U r.1 ∧ Below w.heap.size w w'
/-- what the loop of Read keeps -/
def RdI (n0 n4 : Nat) (w : World) (f n : Int) (k : Nat) (W : World) : Prop :=
  Below n0 w W ∧ n4 ≤ W.heap.size ∧ (W.heap[n0]? = some (.cells #[.int .i64 n] 2 (0, 0)) ∧ W.heap[n0 + 1]? = some (.cells #[.slice none 0 0] 26 (0, 0)) ∧ W.heap[n0 + 2]? = some (.cells #[.int .i64 0] 27 (0, 0))) ∧ f + k ≤ n
/-- how it is left -/
def RdX (n0 n4 : Nat) (w : World) (f n : Int) (L : List (List UInt8)) (W : World) : Prop :=
  Below n0 w W ∧ n4 ≤ W.heap.size ∧ ∃ U e, n - f < (tellsN f L.length : Int) ∧ L[(n - f).toNat]? = some e ∧ W.heap[n0 + 1]? = some (.cells #[U] 26 (0, 0)) ∧ W.heap[n0 + 2]? = some (.cells #[.int .i64 0] 27 (0, 0)) ∧ BytesIn W (fun b => n4 + 2 ≤ b) U e
set_option maxRecDepth 100000 in
set_option maxHeartbeats 16000000 in
theorem segread_any {w : World} {dt : TypeId} {dp : Nat} {f n : Int} (h0 : 0 ≤ f) (h1 : f ≤ 4611686018427387904) (hn : f ≤ n) {L : List (List UInt8)} {g z y : Int}
    (hS : ∀ W, Below w.heap.size w W → Calls Tryz.prog 21 #[.iface dt (.pointer (some ⟨dp, 0, none⟩)), .int .i64 f] W (ScanPost W (⟨f, L, g, z, y⟩, 0))) (hl : L.length ≤ 1000000000) (hb : ∀ e ∈ L, e.length ≤ 140737488355328) :
    Calls Tryz.prog 35 #[.iface dt (.pointer (some ⟨dp, 0, none⟩)), .int .i64 f, .int .i64 n] w (ReadPost17 w (readE17 f n (⟨f, L, g, z, y⟩, 0))) := by
  have hans : readE17 f n (⟨f, L, g, z, y⟩, 0) = if n - f < (tellsN f L.length : Int) then (L.getD (n - f).toNat [], 0) else ([], 4) := by
    unfold readE17; rw [if_neg (by omega), if_neg (by simp)]
  obtain ⟨w1, hw1⟩ : ∃ w1, ((w.alloc (.cells #[.int .i64 n] 2)).alloc (.cells #[.slice none 0 0] 26)).alloc (.cells #[.int .i64 0] 27) = w1 := ⟨_, rfl⟩
  have hb1 : Below w.heap.size w w1 := by rw [← hw1]; exact ((below_alloc w _).alloc (by simp) _).alloc (by simp; omega) _
  have hz1 : w1.heap.size = w.heap.size + 3 := by rw [← hw1]; simp
  have hx : w1.heap[w.heap.size]? = some (.cells #[.int .i64 n] 2 (0, 0)) ∧ w1.heap[w.heap.size + 1]? = some (.cells #[.slice none 0 0] 26 (0, 0)) ∧ w1.heap[w.heap.size + 2]? = some (.cells #[.int .i64 0] 27 (0, 0)) := by rw [← hw1]; exact alloc_at3 w _ _ _
  obtain ⟨hx0, hx1, hx2⟩ := hx
  have c0 := cell_of_heap hx0 (i := 0) (v := .int .i64 n) (by rfl)
  have hS1 : Calls Tryz.prog 21 #[.iface dt (.pointer (some ⟨dp, 0, none⟩)), .int .i64 f] w1 fun e w' => ∃ es, e = .returned (.tuple #[.agg #[.int .i64 f, es, .int .i64 g, .int .i64 z, .int .i64 y], .int .i64 0]) ∧ EntIn (fun b => w1.heap.size ≤ b) w' es L ∧ Below w1.heap.size w1 w' := hS w1 hb1
  have d1 : decide (f < 0) = false := by simp; omega
  have d2 : decide (4611686018427387904 < f) = false := by simp; omega
  have d3 : decide (n < f) = false := by simp; omega
  have HW := Lib.hid hw1
  have HZ := Lib.hid hz1
  have HX := Lib.hid (And.intro hx0 (And.intro hx1 hx2))
  have HB1 := Lib.hid hb1
  have HB := Lib.hid hb
  have HA := Lib.hid hans
  clear hw1 hz1 hx0 hx1 hx2 hb1 hb hS hans
  refine (callsIn_wide (n := 6)).1 ?_
  refine callsIn_of_wp_marks Tryz.func35 rfl trivial ?_ rfl
  simp only [Tryz.ntmps35, List.size_toArray, List.length_cons, List.length_nil, Nat.reduceAdd, Nat.reduceSub, Array.replicate_succ, Array.replicate_zero, List.push_toArray, List.append_toArray, List.nil_append, List.cons_append]
  refine wpIn_wide.2 ?_
  go_wp2_with (first
    | rw [HW.out]
    | (go_at_call 21; refine hS1.mono ?_; rintro _ w2 ⟨es, rfl, hE, hb2⟩; obtain ⟨ea, ec, rfl, hat⟩ := hE.at_; obtain ⟨w3, hw3⟩ : ∃ w3, w2.alloc (.cells #[.int .i64 f, .slice ea L.length ec, .int .i64 g, .int .i64 z, .int .i64 y] 42) = w3 := ⟨_, rfl⟩; have hb3 : Below w2.heap.size w2 w3 := (by rw [← hw3]; exact below_alloc _ _); have hx3 : w3.heap[w2.heap.size]? = some (.cells #[.int .i64 f, .slice ea L.length ec, .int .i64 g, .int .i64 z, .int .i64 y] 42 (0, 0)) := (by rw [← hw3]; exact World.alloc_heap_new w2 _); have HW3 := Lib.hid hw3; clear hw3; have p0 := cell_of_heap hx3 (i := 0) (v := .int .i64 f) (by rfl); have p1 := cell_of_heap hx3 (i := 1) (v := .slice ea L.length ec) (by rfl); have p2 := cell_of_heap hx3 (i := 2) (v := .int .i64 g) (by rfl); have p3 := cell_of_heap hx3 (i := 3) (v := .int .i64 z) (by rfl); have p4 := cell_of_heap hx3 (i := 4) (v := .int .i64 y) (by rfl); have hAll := all_any (w := w3) (c := ec) (f := f) (g := g) (z := z) (y := y) (hat.below hb3) hl HB.out)
    | rw [HW3.out]
    | (go_at_call 36; refine hAll.mono ?_; rintro _ w4 ⟨es4, rfl, hx4, hE4, hb4⟩))
  have hs1 := HB1.out.size
  have hz1 := HZ.out
  have hs2 := hb2.size
  have hs3 := hb3.size
  have hs4 := hb4.size
  have hb14 : Below w1.heap.size w1 w4 := (hb2.trans (hb3.mono hs2)).trans (hb4.mono (Nat.le_trans hs2 hs3))
  have hb04 : Below w.heap.size w w4 := HB1.out.trans (hb14.mono hs1)
  obtain ⟨hx0, hx1, hx2⟩ := HX.out
  have k0 := (hb14.block _ (heap_lt hx0)).trans hx0
  have k1 := (hb14.block _ (heap_lt hx1)).trans hx1
  have k2 := (hb14.block _ (heap_lt hx2)).trans hx2
  have hbd := heap_lt hx4
  clear p0 p1 p2 p3 p4 c0 hx0 hx1 hx2 hb2 hb3 hb4 hx3 hat hE hAll hS1
  refine (wpIn_wide (n := 6)).1 ?_
  refine wpIn_rangeFunc_Y rfl (by omega) (gf := 72) (lb := #[.pointer (some ⟨w3.heap.size, 0, none⟩)]) rfl trivial (enters_of Tryz.func72 (by kernel_rfl) rfl)
    (all1_seq (w := w4) 5 (by omega) h0 h1 (lo := w3.heap.size) (hi := w4.heap.size) hx4 ⟨Nat.le_refl _, hbd⟩ (hE4.kept (Chg.refl (fun _ => False) _) (fun _ _ h => h) (fun b hb => ⟨by omega, hb.2⟩)) (Nat.le_refl _) hl HB.out) (fun h k => h.trans k) (fun W o o' ho => KpB.of_chg (chg_putObj6 W _ _) (fun b hb => by right; omega) (by have := heap_lt ho; omega)) (Below.refl _ _) (fun _ => rfl) (fun _ _ _ _ h => h.grown)
    (fun pre W => RdI w.heap.size w4.heap.size w f n pre.length W)
    (fun c pre W => c = .ret ∧ RdX w.heap.size w4.heap.size w f n L W)
    ?gr ?lo ?lox ⟨hb04, Nat.le_refl _, ⟨k0, k1, k2⟩, by show f + ((0 : Nat) : Int) ≤ n; omega⟩ ?round ?done ?stop
  case gr =>
    rintro s A B ⟨g1, g2, ⟨g3, g4, g5⟩, g6⟩ hg
    have hc := Chg.of_grown (O := fun _ => False) hg (fun k e => by cases e)
    have hs := hc.size
    exact ⟨g1.grown hg g1.size (fun k e => by cases e), by omega, ⟨hc.obj g3 (fun h => h), hc.obj g4 (fun h => h), hc.obj g5 (fun h => h)⟩, g6⟩
  case lo =>
    rintro s W o o' ⟨g1, g2, ⟨g3, g4, g5⟩, g6⟩ ho
    have hc := chg_putObj6 W (w4.heap.size + 1) (.loop o')
    have hs := hc.size
    exact ⟨g1.trans (hc.belowLo6 g1.size (fun k hk => by omega)), by omega, ⟨hc.obj g3 (by omega), hc.obj g4 (by omega), hc.obj g5 (by omega)⟩, g6⟩
  case lox =>
    rintro c s W o o' ⟨g0, g1, g2, U, e, g3, g4, g5, g6, g7⟩ ho
    have hc := chg_putObj6 W (w4.heap.size + 1) (.loop o')
    have hs := hc.size
    exact ⟨g0, g1.trans (hc.belowLo6 g1.size (fun k hk => by omega)), by omega, U, e, g3, g4, hc.obj g5 (by omega), hc.obj g6 (by omega), g7.kept hc (fun b hb e => by omega) (fun _ h => h)⟩
  case round =>
    rintro l pre ⟨xi, xv⟩ W0 W ⟨g1, g2, ⟨g3, g4, g5⟩, g6⟩ ⟨y1, y2, ⟨e, he, hU⟩, hbY⟩ hlt
    have hsY := hbY.size
    have g1' : Below w.heap.size w W := g1.trans (hbY.mono g1.size)
    have g3' := (hbY.block _ (heap_lt g3)).trans g3
    have g4' := (hbY.block _ (heap_lt g4)).trans g4
    have g5' := (hbY.block _ (heap_lt g5)).trans g5
    simp only at y2
    subst y2
    simp only [encE]
    gi_wp2
    intro o o' ho
    obtain ⟨W2, hW2⟩ : ∃ W2, W.putObj (w4.heap.size + 1) (.loop o') = W2 := ⟨_, rfl⟩
    have hcP : Chg (· = w4.heap.size + 1) W W2 := by rw [← hW2]; exact chg_putObj6 _ _ _
    have hs2 := hcP.size
    rw [hW2]
    clear hW2
    have q0 := hcP.obj g3' (by omega)
    have q1 := hcP.obj g4' (by omega)
    have q2 := hcP.obj g5' (by omega)
    have hU2 := hU.kept (R' := fun b => W0.heap.size ≤ b) hcP (fun b hb e => by omega) (fun _ h => h)
    have c0 := cell_of_heap q0 (i := 0) (v := .int .i64 n) (by rfl)
    have z1 := frozen_of_heap (i := 0) q1
    have z2 := frozen_of_heap (i := 0) q2
    have m1 := cell_of_heap q1 (i := 0) (v := .slice none 0 0) (by rfl)
    have m2 := cell_of_heap q2 (i := 0) (v := .int .i64 0) (by rfl)
    obtain ⟨ua, uc, rfl, _⟩ := hU2.row
    have g12 : Below w.heap.size w W2 := g1'.trans (hcP.belowLo6 g1'.size (fun k hk => by omega))
    by_cases hi : f + (pre.length : Int) = n
    · have e1 : ((f + (pre.length : Int)) == n) = true := by simpa using hi
      have HF : Hid (n - f < (tellsN f L.length : Int) ∧ L[(n - f).toNat]? = some e) := Lib.hid ⟨by omega, by rw [show (n - f).toNat = pre.length from by omega]; exact he⟩
      obtain ⟨X, hX, hcX, x1, x2⟩ : ∃ X, (W2.setCell ⟨w.heap.size + 1, 0, none⟩ (.slice ua e.length uc)).setCell ⟨w.heap.size + 2, 0, none⟩ (.int .i64 0) = X ∧ Chg (fun b => b = w.heap.size + 1 ∨ b = w.heap.size + 2) W2 X ∧ X.heap[w.heap.size + 1]? = some (.cells #[.slice ua e.length uc] 26 (0, 0)) ∧ X.heap[w.heap.size + 2]? = some (.cells #[.int .i64 0] 27 (0, 0)) := by
        have s1 : Chg (· = w.heap.size + 1) W2 (W2.setCell ⟨w.heap.size + 1, 0, none⟩ (.slice ua e.length uc)) := Chg.set _ rfl
        have s2 : Chg (· = w.heap.size + 2) (W2.setCell ⟨w.heap.size + 1, 0, none⟩ (.slice ua e.length uc)) ((W2.setCell ⟨w.heap.size + 1, 0, none⟩ (.slice ua e.length uc)).setCell ⟨w.heap.size + 2, 0, none⟩ (.int .i64 0)) := Chg.set _ rfl
        exact ⟨_, rfl, (s1.mono (fun b h _ => Or.inl h)).trans s2 (fun b h _ => .inr h), s2.obj (heap_set_cells (i := 0) _ q1) (by omega), heap_set_cells (i := 0) _ (s1.obj q2 (by omega))⟩
      have HX2 := Lib.hid hX
      clear hX hi he y1 g6
      gi_wp2
      rw [HX2.out]
      have hsX := hcX.size
      refine ⟨fun k hk1 hk2 => hcX.block k (by omega) (fun hO => by omega), rfl, g12.trans (hcX.belowLo6 g12.size (fun k hk => by omega)), by omega, _, e, HF.out.1, HF.out.2, x1, x2, hU2.kept hcX (fun b hb e => by omega) (fun b hb => by omega)⟩
    · have e1 : ((f + (pre.length : Int)) == n) = false := by simpa using hi
      have HG6 : Hid (f + (pre ++ [((f + (pre.length : Int), .slice ua e.length uc) : Int × Value)]).length ≤ n) := Lib.hid (by simp; omega)
      clear hi he y1 g6
      gi_wp2
      exact ⟨fun k hk1 hk2 => rfl, KpB.of_chg hcP (fun b hb => by right; omega) (by omega), g12, by omega, ⟨q0, q1, q2⟩, HG6.out⟩
  case done =>
    rintro xs W hSx ⟨g1, g2, ⟨g3, g4, g5⟩, g6⟩ hD
    have z1 := frozen_of_heap (i := 0) g4
    have z2 := frozen_of_heap (i := 0) g5
    have m1 := cell_of_heap g4 (i := 0) (v := .slice none 0 0) (by rfl)
    have m2 := cell_of_heap g5 (i := 0) (v := .int .i64 0) (by rfl)
    have HR : Hid (readE17 f n (⟨f, L, g, z, y⟩, 0) = ([], 4)) := Lib.hid (by rw [HA.out, if_neg (by rw [← hSx]; omega)])
    obtain ⟨X, hX, hcX, x1, x2⟩ : ∃ X, (W.setCell ⟨w.heap.size + 1, 0, none⟩ (.slice none 0 0)).setCell ⟨w.heap.size + 2, 0, none⟩ (.int .i64 4) = X ∧ Chg (fun b => b = w.heap.size + 1 ∨ b = w.heap.size + 2) W X ∧ X.heap[w.heap.size + 1]? = some (.cells #[.slice none 0 0] 26 (0, 0)) ∧ X.heap[w.heap.size + 2]? = some (.cells #[.int .i64 4] 27 (0, 0)) := by
      have s1 : Chg (· = w.heap.size + 1) W (W.setCell ⟨w.heap.size + 1, 0, none⟩ (.slice none 0 0)) := Chg.set _ rfl
      have s2 : Chg (· = w.heap.size + 2) (W.setCell ⟨w.heap.size + 1, 0, none⟩ (.slice none 0 0)) ((W.setCell ⟨w.heap.size + 1, 0, none⟩ (.slice none 0 0)).setCell ⟨w.heap.size + 2, 0, none⟩ (.int .i64 4)) := Chg.set _ rfl
      exact ⟨_, rfl, (s1.mono (fun b h _ => Or.inl h)).trans s2 (fun b h _ => .inr h), s2.obj (heap_set_cells (i := 0) _ g4) (by omega), heap_set_cells (i := 0) _ (s1.obj g5 (by omega))⟩
    have HX2 := Lib.hid hX
    clear hX hSx g6
    gi_wp2
    go_wp2
    rw [HX2.out]
    have hDX := hcX.obj hD (by omega)
    refine ⟨by simp, .inl ⟨_, _, rfl, run_takeDeferred hDX, ?_⟩⟩
    have hg := chg_putObj6 X w4.heap.size (.deferred none)
    have y1 := cell_of_heap (hg.obj x1 (by omega)) (i := 0) (v := .slice none 0 0) (by rfl)
    have y2 := cell_of_heap (hg.obj x2 (by omega)) (i := 0) (v := .int .i64 4) (by rfl)
    have hcA : Below w.heap.size w (X.putObj w4.heap.size (.deferred none)) := (g1.trans (hcX.belowLo6 g1.size (fun k hk => by omega))).trans (hg.belowLo6 (by have := g1.size; have := hcX.size; omega) (fun k hk => by omega))
    exact ⟨.tuple #[.slice none 0 0, .int .i64 4], by simp [results, Tryz.results35, go_sem, y1, y2], by rw [HR.out]; exact ⟨_, rfl, BytesIn.nil _ _, hcA⟩⟩
  case stop =>
    rintro c pre W _ ⟨rfl, g1, g2, U, e, g3, g4, x1, x2, hU⟩ hD
    have HR : Hid (readE17 f n (⟨f, L, g, z, y⟩, 0) = (e, 0)) := Lib.hid (by rw [HA.out, if_pos g3, List.getD_eq_getElem?_getD, g4]; rfl)
    gi_wp2
    refine ⟨by simp, .inl ⟨_, _, rfl, run_takeDeferred hD, ?_⟩⟩
    have hg := chg_putObj6 W w4.heap.size (.deferred none)
    have y1 := cell_of_heap (hg.obj x1 (by omega)) (i := 0) (v := U) (by rfl)
    have y2 := cell_of_heap (hg.obj x2 (by omega)) (i := 0) (v := .int .i64 0) (by rfl)
    have hcA : Below w.heap.size w (W.putObj w4.heap.size (.deferred none)) := g1.trans (hg.belowLo6 g1.size (fun k hk => by omega))
    exact ⟨.tuple #[U, .int .i64 0], by simp [results, Tryz.results35, go_sem, y1, y2], by rw [HR.out]; exact ⟨_, rfl, hU.kept hg (fun b hb e => by omega) (fun b hb => by omega), hcA⟩⟩

end Go.Proofs.YtlmdpcaikhdenaaGreat
/- Segment: the law's kept. -/
namespace Go.Proofs.YtlmdpcaikhdenaaGreat
open Go.RowKit Go.Maps


end Go.Proofs.YtlmdpcaikhdenaaGreat
/- Segment: the law's goes. -/
namespace Go.Proofs.YtlmdpcaikhdenaaGreat
open Go.RowKit Go.Maps Go.Shelf
attribute [local go_sem] Oper.semAt_some

/-- what the loop of goes keeps -/
def GoI (n0 : Nat) (w : World) (f leave : Int) (v : Value) (k : Nat) (W : World) : Prop :=
  Below n0 w W ∧ n0 + 5 ≤ W.heap.size ∧ W.heap[n0]? = some (.cells #[.int .i64 f] 2 (0, 0)) ∧ W.heap[n0 + 1]? = some (.cells #[v] 22 (0, 0)) ∧ W.heap[n0 + 2]? = some (.cells #[.int .i64 leave] 3 (0, 0)) ∧ W.heap[n0 + 3]? = some (.cells #[.bool false] 4 (0, 0)) ∧ W.heap[n0 + 4]? = some (.cells #[.int .i64 (k : Int)] 3 (0, 0))
theorem GoI.chg {n0 : Nat} {w : World} {f leave : Int} {v : Value} {k : Nat} {W W' : World} (h : GoI n0 w f leave v k W) {O : Nat → Prop} (hc : Chg O W W') (hO : ∀ b, O b → n0 + 5 ≤ b) : GoI n0 w f leave v k W' := by
  obtain ⟨h1, h2, h3, h4, h5, h6, h7⟩ := h
  have hs := hc.size
  have q : ∀ b, b < n0 + 5 → ¬ O b := fun b hb ho => by have := hO b ho; omega
  exact ⟨h1.trans (hc.belowLo6 (by omega) (fun b hb => by have := hO b hb; omega)), by omega, hc.obj h3 (q _ (by omega)), hc.obj h4 (q _ (by omega)), hc.obj h5 (q _ (by omega)), hc.obj h6 (q _ (by omega)), hc.obj h7 (q _ (by omega))⟩
/-- how it is left -/
def GoX (n0 : Nat) (w : World) (W : World) : Prop := Below n0 w W ∧ n0 + 5 ≤ W.heap.size ∧ W.heap[n0 + 3]? = some (.cells #[.bool true] 4 (0, 0))
theorem func_nil (w : World) (f : Fn) (x y : Array Value) : (binOp .eql 87 (.func f x y) .nilFunc).run Tryz.prog w = .ok (.bool false) w := by
  kernel_rfl

end Go.Proofs.YtlmdpcaikhdenaaGreat
/- Segment: Append over the disk; the law's works. -/
namespace Go.Proofs.YtlmdpcaikhdenaaGreat
open Go.RowKit Go.Maps

theorem hexB_ok {x : Nat} (h : x < 16) : ChOk (hexB x) := by
  unfold ChOk
  rcases lt16 h with rfl | rfl | rfl | rfl | rfl | rfl | rfl | rfl | rfl | rfl | rfl | rfl | rfl | rfl | rfl | rfl <;> decide
theorem nameL_ok {c : UInt8} (hc : ChOk c) (n : Nat) : NameOk (nameL c n 16) := by
  refine ⟨by rw [nameL_len]; omega, by rw [nameL_len]; omega, fun x hx => ?_⟩
  unfold nameL at hx
  rcases List.mem_cons.1 hx with rfl | hx
  · exact hc
  · obtain ⟨j, _, rfl⟩ := List.mem_map.1 hx
    exact hexB_ok (nib_lt _ _)
theorem segName_ok (f : Int) : nameOk (segName f) = true := (nameOk_true (nameL_ok (by unfold ChOk; decide) _)).symm
section
variable {F G : Nat → Prop} {w : World} {p : Nat} {s : DSt} {N : Nat}
theorem append1_disk (h : One F G w p s) (hok : s.Ok N) (hN : N + 1 < maxList) {nm : List UInt8} (hnm : nm.length ≤ maxLen) {b3 b4 b9 : Nat} {e3 e9 : TypeId} {f g z y : Int} (hg : 0 ≤ g) (hg1 : g ≤ 1099511627776) {es : Value} {ua : Option Addr} {uc : Nat} {en : List UInt8} (hen : en.length ≤ 140737488355328)
    (k3 : w.heap[b3]? = some (.cells #[devD p] e3 (0, 0))) (k4 : w.heap[b4]? = some (.cells #[.int .i64 f, es, .int .i64 g, .int .i64 z, .int .i64 y] 42 (0, 0))) (k9 : w.heap[b9]? = some (.cells #[.slice ua en.length uc] e9 (0, 0))) (kr : RowAt w ua (en.map bv)) (kn : ua = none → uc = 0) :
    Calls Tryz.prog 47 #[.string ⟨nm.toArray⟩, .pointer (some ⟨b3, 0, none⟩), .pointer (some ⟨b4, 0, none⟩), .pointer (some ⟨b9, 0, none⟩)] w fun e w' => e = .returned (.int .i64 ((s.put nm g en).2 : Int)) ∧ ∃ F' G', One F' G' w' p (s.put nm g en).1 ∧ Moved F G F' G' w w' := by
  have hP := h.put hnm (at_ := g) (xc := uc) kr kn hen (by omega) hok hN
  have c3 := cell_of_heap k3 (i := 0) (v := devD p) (by rfl)
  have c2 := cell_of_heap k4 (i := 2) (v := .int .i64 g) (by rfl)
  have c9 := cell_of_heap k9 (i := 0) (v := .slice ua en.length uc) (by rfl)
  unfold devD at c3
  generalize (s.put nm g en).2 = er at *
  clear k3 k4 k9 kr kn hen hok hN h hg hg1
  go_enter Tryz.func47, Tryz.ntmps47
  go_wp2_with (go_at_call 226; refine hP.mono ?_; rintro _ w2 ⟨rfl, hq⟩)
  go_ret
  exact ⟨rfl, hq⟩
/-- Append over the disk -/
theorem append_disk (h : One F G w p s) (hok : s.Ok N) (hN : N + 1 < maxList) {f g z y : Int} {a b : Option Addr} {c cb : Nat} {L M : List (List UInt8)} (hg : 0 ≤ g) (hg1 : g ≤ 1099511627776) (hLb : ∀ e ∈ L, e.length ≤ 140737488355328) (hA : EntsAt w a L) (hM : ∀ w', Chg F w w' → EntsAt w' b M) (hM0 : M ≠ []) (hf : fitsE f L.length M = 0) :
    Calls Tryz.prog 18 #[devD p, .agg #[.int .i64 f, .slice a L.length c, .int .i64 g, .int .i64 z, .int .i64 y], .slice b M.length cb] w
      (SegPost F G (fun F G w => One F G w p (s.put (segName f) g (encL (f.toNat + L.length) M)).1) w (if ((s.put (segName f) g (encL (f.toNat + L.length) M)).2 : Int) = 0 then SegV.behind ⟨f, L, g, z, y⟩ M ((encL (f.toNat + L.length) M).length : Int) else SegV.none, ((s.put (segName f) g (encL (f.toNat + L.length) M)).2 : Int))) := by
  obtain ⟨_, _, _, f3, f4⟩ := fits_ok hf
  have hen := encL_len_le (f.toNat + L.length) M f4
  exact append_go (At := fun F G w => One F G w p s) (At' := fun F G w => One F G w p (s.put (segName f) g (encL (f.toNat + L.length) M)).1) (Lies.one p s) (Lies.one p _) h hg (fun _ => hg1) hLb hA hM hM0 hf
    (fun W b3 b4 b9 e3 e9 es ua uc ha k3 k4 k9 kr kn _ => append1_disk ha hok hN (by rw [segName_len]; decide) hg hg1 (by omega) k3 k4 k9 kr kn)
end

/-! ### works -/
def wkM : List (List UInt8) := [[1, 2], []]
noncomputable def wk1 : DSt := ((DSt.empty 1000).create (segName 5)).1
noncomputable def wk2 : DSt := (wk1.put (segName 5) 0 (encL 5 wkM)).1
theorem wk_create : (DSt.empty 1000).create (segName 5) = (({ DSt.empty 1000 with files := [([], [])] } : DSt).step (.create (segName 5) 0), 0) := by
  have h : (DSt.empty 1000).names = [] := rfl
  unfold DSt.create
  rw [segName_ok, h]
  rfl
theorem wk1_eq : wk1 = ({ DSt.empty 1000 with files := [([], [])] } : DSt).step (.create (segName 5) 0) := by unfold wk1; rw [wk_create]
theorem wk_en : (encL 5 wkM).length = 40 := by decide
theorem wk_seg : (segL 5 (encL 5 wkM)).entries = wkM ∧ (segL 5 (encL 5 wkM)).good = 40 ∧ (segL 5 (encL 5 wkM)).why = 0 := by decide +kernel
theorem wk_find : nlFind wk1.names (segName 5) = some 0 := by
  rw [wk1_eq]
  show nlFind (nlPut [] (segName 5) 0) (segName 5) = some 0
  simp [nlPut, nlDel, nlIns, nlFind]
theorem wk_st : wk1.stands 0 = [] := by rw [wk1_eq]; rfl
theorem wk_used : wk1.used = 0 := by
  unfold DSt.used usedOf
  have hn : wk1.names = [(segName 5, 0)] := by rw [wk1_eq]; show nlPut [] (segName 5) 0 = _; simp [nlPut, nlDel, nlIns]
  rw [hn]
  simp [wk_st]
theorem wk_put : wk1.put (segName 5) 0 (encL 5 wkM) = (wk1.write ⟨0, false, 0, encL 5 wkM⟩, 0) := by
  unfold DSt.put
  rw [wk_find]
  have hr : wk1.room = 1000 := by rw [wk1_eq]; rfl
  simp only [wk_st, wk_used, wk_en, hr]
  rw [if_neg (by simp), if_neg (by simp)]
  rfl
theorem wk_text : wk2.text (segName 5) = some (encL 5 wkM) := by
  have h2 : wk2 = wk1.write ⟨0, false, 0, encL 5 wkM⟩ := by unfold wk2; rw [wk_put]
  have hn : wk2.names = wk1.names := by rw [h2]; rfl
  unfold DSt.text
  rw [hn, wk_find, h2]
  show some ((wk1.write ⟨0, false, 0, encL 5 wkM⟩).stands 0) = _
  have : (wk1.write ⟨0, false, 0, encL 5 wkM⟩).stands 0 = laid (wk1.stands 0) ⟨0, false, 0, encL 5 wkM⟩ (encL 5 wkM).length := by
    unfold DSt.write DSt.stands
    rw [wk1_eq]
    rfl
  rw [this, wk_st]
  unfold laid
  rw [if_neg (by simp), if_neg (by rw [wk_en]; omega)]
  simp
theorem wk_scan : scanD wk2 5 = (⟨5, wkM, 40, 40, 0⟩, 0) := by
  unfold scanD
  rw [if_neg (by omega)]
  unfold scanN
  rw [show (5 : Int).toNat = 5 from rfl, wk_text]
  show (SegV.of 5 (encL 5 wkM), 0) = _
  unfold SegV.of
  rw [wk_seg.1, wk_seg.2.1, wk_seg.2.2, wk_en]
  rfl
theorem wk_ok0 : (DSt.empty 1000).Ok 0 := DSt.Ok.empty (by decide) 0
theorem wk_ok1 : wk1.Ok 1 := wk_ok0.create (segName 5)
theorem wk_ok2 : wk2.Ok 2 := wk_ok1.put (segName 5) 0 _
theorem wk_behind : SegV.behind ⟨5, [], 0, 0, 0⟩ wkM ((encL 5 wkM).length : Int) = ⟨5, wkM, 40, 40, 0⟩ := by rw [wk_en]; rfl
theorem EntIn.off {R O : Nat → Prop} {w w' : World} {v : Value} {L : List (List UInt8)} (h : EntIn R w v L) (hc : Chg O w w') (hO : ∀ b, R b → ¬ O b) : EntIn R w' v L := h.kept hc hO (fun _ h => h)
section
variable {w : World}
theorem wk_new (w : World) : Calls Tryz.prog 16 #[.int .i64 1000] w fun e w' => ∃ p F G, e = .returned (.tuple #[.pointer (some ⟨p, 0, none⟩), .int .i64 0]) ∧ One F G w' p (DSt.empty 1000) ∧ (∀ b, F b ∨ G b → w.heap.size ≤ b) ∧ Below w.heap.size w w' :=
  (new_any (cap := 1000) (by decide) w).mono fun e w' ⟨p, own, k1, k2, k3, k4⟩ => by
    obtain ⟨F, G, h1, h2, h3⟩ := One.of (w := w) k2 k3 (fun b hb => hb.1)
    exact ⟨p, F, G, k1, h1, fun b hb => hb.elim (fun h => (h2 b h).1) (fun h => (h3 b h).1), k4⟩
theorem wk_begin {F G : Nat → Prop} {p : Nat} (h : One F G w p (DSt.empty 1000)) : Calls Tryz.prog 17 #[devD p, .int .i64 5] w fun e w' => e = .returned (.int .i64 0) ∧ ∃ F' G', One F' G' w' p wk1 ∧ Moved F G F' G' w w' := by
  have := begin_any h (f := 5) (by omega) (by omega) wk_ok0 (by decide)
  rw [wk_create] at this
  rw [wk1_eq]
  exact this
theorem wk_append {F G : Nat → Prop} {p : Nat} (h : One F G w p wk1) {b : Option Addr} {cb : Nat} (hM : ∀ w', Chg F w w' → EntsAt w' b wkM) : Calls Tryz.prog 18 #[devD p, .agg #[.int .i64 5, .slice none 0 0, .int .i64 0, .int .i64 0, .int .i64 0], .slice b 2 cb] w (SegPost F G (fun F G w => One F G w p wk2) w (⟨5, wkM, 40, 40, 0⟩, 0)) := by
  have hr : (wk1.put (segName 5) 0 (encL ((5 : Int).toNat + ([] : List (List UInt8)).length) wkM)).2 = 0 := by
    show (wk1.put (segName 5) 0 (encL 5 wkM)).2 = 0
    rw [wk_put]
  have := append_disk h wk_ok1 (by decide) (f := 5) (g := 0) (z := 0) (y := 0) (a := none) (c := 0) (cb := cb) (L := []) (M := wkM) (by omega) (by omega) (fun e he => by cases he) (EntsAt.nil _ _) hM (by decide) (by decide)
  rw [hr] at this
  rw [if_pos (show ((0 : Nat) : Int) = 0 from rfl)] at this
  have e : SegV.behind ⟨5, [], 0, 0, 0⟩ wkM ((encL ((5 : Int).toNat + ([] : List (List UInt8)).length) wkM).length : Int) = ⟨5, wkM, 40, 40, 0⟩ := wk_behind
  rw [e] at this
  exact this
theorem wk_scan_any {F G : Nat → Prop} {p : Nat} (h : One F G w p wk2) : Calls Tryz.prog 21 #[devD p, .int .i64 5] w (ScanPost w (⟨5, wkM, 40, 40, 0⟩, 0)) := by
  have := scan_any h wk_ok2 (by decide) (f := 5) (by omega)
  rw [wk_scan] at this
  exact this
theorem wk_read {F G : Nat → Prop} {p : Nat} (h : One F G w p wk2) : Calls Tryz.prog 35 #[devD p, .int .i64 5, .int .i64 5] w (ReadPost17 w ([1, 2], 0)) := by
  have := segread_any (w := w) (dt := 45) (dp := p) (f := 5) (n := 5) (L := wkM) (g := 40) (z := 40) (y := 0) (by omega) (by omega) (by omega) (fun W hW => wk_scan_any (h.below hW)) (by decide) (by decide)
  have e : readE17 5 5 (⟨5, wkM, 40, 40, 0⟩, 0) = ([1, 2], 0) := by decide
  rw [e] at this
  exact this
end
theorem wk_ents {w : World} {g : Nat} (ha : w.heap[g]? = some (.cells #[.int .u8 1, .int .u8 2] 5 (0, 0))) (hb : w.heap[g + 1]? = some (.cells #[.slice (some ⟨g, 0, none⟩) 2 2, .slice none 0 0] 26 (0, 0))) : EntsAt w (some ⟨g + 1, 0, none⟩) wkM := fun _ => by
  refine ⟨g + 1, 0, rfl, fun i d hd => ?_⟩
  match i with
  | 0 =>
    obtain rfl : [1, 2] = d := by simpa [wkM] using hd
    refine ⟨some ⟨g, 0, none⟩, 2, cell_of_heap hb (by rfl), RowAt.of_row (fun j u hu => ?_), by decide, fun e => by cases e⟩
    match j with
    | 0 => (simp at hu; subst hu; exact cell_of_heap ha (by rfl))
    | 1 => (simp at hu; subst hu; exact cell_of_heap ha (by rfl))
    | j + 2 => simp at hu
  | 1 =>
    obtain rfl : [] = d := by simpa [wkM] using hd
    exact ⟨none, 0, cell_of_heap hb (by rfl), RowAt.nil _ _, Nat.le_refl _, fun _ => rfl⟩
  | i + 2 => simp [wkM] at hd
set_option maxRecDepth 100000 in
set_option maxHeartbeats 16000000 in
theorem works17_any (w : World) : Calls Tryz.prog 7 #[] w fun e w' => e = .returned (.bool true) ∧ Below w.heap.size w w' := by
  have hN := wk_new w
  have hnf := func_nil
  go_enter Tryz.func7, Tryz.ntmps7
  go_wp2_with (first
    | (go_at_call 16; refine hN.mono ?_; rintro _ w1 ⟨p, F0, G0, rfl, hO0, hFG0, hb1⟩; have hB := wk_begin hO0; unfold devD at hB)
    | (go_at_call 17; refine hB.mono ?_; rintro _ w2 ⟨rfl, F1, G1, hO1, hm1⟩; obtain ⟨w3, hw3⟩ : ∃ w3, (w2.alloc (.cells #[.int .u8 1, .int .u8 2] 5)).alloc (.cells #[.slice (some ⟨w2.heap.size, 0, none⟩) 2 2, .slice none 0 0] 26) = w3 := ⟨_, rfl⟩; have hb3 : Below w2.heap.size w2 w3 := (by rw [← hw3]; exact (below_alloc _ _).alloc (by simp) _); have hxa : w3.heap[w2.heap.size]? = some (.cells #[.int .u8 1, .int .u8 2] 5 (0, 0)) := (by rw [← hw3]; exact (Below.heap_alloc _ _ _ (by simp)).trans (World.alloc_heap_new w2 _)); have hxb : w3.heap[w2.heap.size + 1]? = some (.cells #[.slice (some ⟨w2.heap.size, 0, none⟩) 2 2, .slice none 0 0] 26 (0, 0)) := (by rw [← hw3]; have := World.alloc_heap_new (w2.alloc (.cells #[.int .u8 1, .int .u8 2] 5)) (.cells #[.slice (some ⟨w2.heap.size, 0, none⟩) 2 2, .slice none 0 0] 26); rwa [World.size_alloc] at this); have hO3 := hO1.below hb3; have hl1 := hO1.lt; have hA := wk_append hO3 (b := some ⟨w2.heap.size + 1, 0, none⟩) (cb := 2) (fun w' hc => wk_ents (hc.obj hxa (fun h => by have := hl1.1 _ h; omega)) (hc.obj hxb (fun h => by have := hl1.1 _ h; omega))); have hAa : Calls Tryz.prog 18 #[.iface 45 (.pointer (some ⟨p, 0, none⟩)), .agg #[.int .i64 5, .slice none 0 0, .int .i64 0, .int .i64 0, .int .i64 0], .slice (some ⟨w2.heap.size + 1, 0, none⟩) 2 2] w3 (fun e w' => ∃ es F' G', e = .returned (.tuple #[.agg #[.int .i64 5, es, .int .i64 40, .int .i64 40, .int .i64 0], .int .i64 0]) ∧ EntIn (fun b => w3.heap.size ≤ b ∧ ¬ F' b ∧ ¬ G' b) w' es wkM ∧ One F' G' w' p wk2 ∧ Moved F1 G1 F' G' w3 w') := hA; have HW3 := Lib.hid hw3; clear hw3 hxa hxb hB hA)
    | rw [HW3.out]
    | (go_at_call 18; refine hAa.mono ?_; rintro _ w4 ⟨es4, F2, G2, rfl, hE4, hO4, hm4⟩; obtain ⟨ea, ec, rfl⟩ := hE4.slice; obtain ⟨w5, hw5⟩ : ∃ w5, w4.alloc (.cells #[.int .i64 5, .slice ea wkM.length ec, .int .i64 40, .int .i64 40, .int .i64 0] 42) = w5 := ⟨_, rfl⟩; have hb5 : Below w4.heap.size w4 w5 := (by rw [← hw5]; exact below_alloc _ _); have hx5 : w5.heap[w4.heap.size]? = some (.cells #[.int .i64 5, .slice ea wkM.length ec, .int .i64 40, .int .i64 40, .int .i64 0] 42 (0, 0)) := (by rw [← hw5]; exact World.alloc_heap_new _ _); have hSc : Calls Tryz.prog 21 #[.iface 45 (.pointer (some ⟨p, 0, none⟩)), .int .i64 5] w5 (fun e w' => ∃ es, e = .returned (.tuple #[.agg #[.int .i64 5, es, .int .i64 40, .int .i64 40, .int .i64 0], .int .i64 0]) ∧ EntIn (fun b => w5.heap.size ≤ b) w' es wkM ∧ Below w5.heap.size w5 w') := wk_scan_any (hO4.below hb5); have HW5 := Lib.hid hw5; clear hw5)
    | rw [HW5.out]
    | (go_at_call 21; refine hSc.mono ?_; rintro _ w6 ⟨es6, rfl, hE6, hb6⟩; obtain ⟨fa, fc, rfl⟩ := hE6.slice; obtain ⟨w7, hw7⟩ : ∃ w7, w6.alloc (.cells #[.int .i64 5, .slice fa wkM.length fc, .int .i64 40, .int .i64 40, .int .i64 0] 42) = w7 := ⟨_, rfl⟩; have hb7 : Below w6.heap.size w6 w7 := (by rw [← hw7]; exact below_alloc _ _); have hx7 : w7.heap[w6.heap.size]? = some (.cells #[.int .i64 5, .slice fa wkM.length fc, .int .i64 40, .int .i64 40, .int .i64 0] 42 (0, 0)) := (by rw [← hw7]; exact World.alloc_heap_new _ _); have hO7 := (hO4.below hb5).below (hb6.trans (hb7.mono hb6.size)); have hRd : Calls Tryz.prog 35 #[.iface 45 (.pointer (some ⟨p, 0, none⟩)), .int .i64 5, .int .i64 5] w7 (fun e w' => ∃ U, e = .returned (.tuple #[U, .int .i64 0]) ∧ BytesIn w' (fun b => w7.heap.size ≤ b) U [1, 2] ∧ Below w7.heap.size w7 w') := wk_read hO7; have HW7 := Lib.hid hw7; clear hw7)
    | rw [HW7.out]
    | (go_at_call 35; refine hRd.mono ?_; rintro _ w8 ⟨U, rfl, hU, hb8⟩; obtain ⟨ua, uc, rfl, _, _, hur⟩ := hU.row; have hx78 := (hb8.block _ (heap_lt hx7)).trans hx7; have p0 := cell_of_heap hx78 (i := 0) (v := .int .i64 5) (by rfl); have p1 := cell_of_heap hx78 (i := 1) (v := .slice fa wkM.length fc) (by rfl); have p2 := cell_of_heap hx78 (i := 2) (v := .int .i64 40) (by rfl); have p3 := cell_of_heap hx78 (i := 3) (v := .int .i64 40) (by rfl); have p4 := cell_of_heap hx78 (i := 4) (v := .int .i64 0) (by rfl); obtain ⟨_, _, e6, hat6⟩ := hE6.at_; cases e6; have hat8 := (hat6.below hb7).below hb8; have hAl := all_any (w := w8) (c := fc) (f := 5) (g := 40) (z := 40) (y := 0) hat8 (by decide) (by decide))
    | (go_at_call 36; refine hAl.mono ?_; rintro _ w9 ⟨es9, rfl, _, _, hb9⟩; have hx79 := (hb9.block _ (heap_lt hx78)).trans hx78; have p0 := cell_of_heap hx79 (i := 0) (v := .int .i64 5) (by rfl); have p1 := cell_of_heap hx79 (i := 1) (v := .slice fa wkM.length fc) (by rfl); have p2 := cell_of_heap hx79 (i := 2) (v := .int .i64 40) (by rfl); have p3 := cell_of_heap hx79 (i := 3) (v := .int .i64 40) (by rfl); have p4 := cell_of_heap hx79 (i := 4) (v := .int .i64 0) (by rfl); have hb59 := ((hb6.trans (hb7.mono hb6.size)).trans (hb8.mono (Nat.le_trans hb6.size hb7.size))).trans (hb9.mono (Nat.le_trans (Nat.le_trans hb6.size hb7.size) hb8.size)); have hx59 := (hb59.block _ (heap_lt hx5)).trans hx5; have q0 := cell_of_heap hx59 (i := 0) (v := .int .i64 5) (by rfl); have q1 := cell_of_heap hx59 (i := 1) (v := .slice ea wkM.length ec) (by rfl); have q2 := cell_of_heap hx59 (i := 2) (v := .int .i64 40) (by rfl); have q3 := cell_of_heap hx59 (i := 3) (v := .int .i64 40) (by rfl); have q4 := cell_of_heap hx59 (i := 4) (v := .int .i64 0) (by rfl); obtain ⟨_, _, e4, hat4⟩ := hE4.at_; cases e4; have hSm := rsegSame_any (w := w9) (c := ec) (d := fc) (f1 := 5) (g1 := 40) (z1 := 40) (y1 := 0) (f2 := 5) (g2 := 40) (z2 := 40) (y2 := 0) ((hat4.below hb5).below hb59) (hat8.below hb9) (by decide); rw [show ((5 : Int) == 5 && (40 : Int) == 40 && (40 : Int) == 40 && (0 : Int) == 0 && wkM == wkM) = true from by decide] at hSm)
    | (go_at_call 11; refine (num17_any _ _).mono ?_; rintro _ wn ⟨rfl, rfl⟩)
    | (go_at_call 22; refine hSm.mono ?_; rintro _ w10 ⟨rfl, hb10⟩; have hcv : (convert 26 9 (.slice ua 2 uc)).run Tryz.prog w10 = .ok (.string ⟨#[1, 2]⟩) w10 := run_conv (P := Tryz.prog) 26 9 5 Tryz.underlying26 Tryz.underlying5 Tryz.underlying9 (c := uc) (l := [1, 2]) ((hur.below hb9).below hb10)))
  go_ret
  refine ⟨rfl, ?_⟩
  have h1 : Below w.heap.size w w2 := hb1.trans (hm1.1.belowLo6 hb1.size (fun b hb => hFG0 b (.inl hb)))
  have h3 := h1.trans (hb3.mono h1.size)
  have h4 : Below w.heap.size w w4 := h3.trans (hm4.1.belowLo6 h3.size (fun b hb => by
    rcases (hm1.2.1 b hb).1 with h | h
    · exact hFG0 b (.inl h)
    · have := hb1.size; omega))
  have h5 := h4.trans (hb5.mono h4.size)
  have h9 := h5.trans (hb59.mono h5.size)
  exact h9.trans (hb10.mono h9.size)

end Go.Proofs.YtlmdpcaikhdenaaGreat
/- SegmentDecodes: the walk. (printed by gen/sdecw.py) -/
namespace Go.Proofs.YtlmdpcaikhdenaaGreat
open Go.RowKit Go.Maps

/-- what Decode answers -/
def decV (f : Int) (b : List UInt8) : SegV × Nat := if f < 0 ∨ 4611686018427387904 < f then (SegV.none, 4) else (SegV.of f.toNat b, 0)

end Go.Proofs.YtlmdpcaikhdenaaGreat
/- SegmentWalks: the walk. (printed by gen/swalkw.py) -/
namespace Go.Proofs.YtlmdpcaikhdenaaGreat
open Go.RowKit Go.Maps

theorem le_foldl_add (l : List Nat) (n : Nat) : n ≤ l.foldl (· + ·) n := by
  induction l generalizing n with
  | nil => exact Nat.le_refl _
  | cons x r ih => exact Nat.le_trans (Nat.le_add_right n x) (ih (n + x))
theorem mem_foldl_add (l : List Nat) (n x : Nat) (h : x ∈ l) : x ≤ l.foldl (· + ·) n := by
  induction l generalizing n with
  | nil => cases h
  | cons y r ih =>
    rcases List.mem_cons.1 h with rfl | h
    · exact Nat.le_trans (Nat.le_add_left x n) (le_foldl_add r (n + x))
    · exact ih _ h
theorem mem_bytesL {L : List (List UInt8)} {e : List UInt8} (h : e ∈ L) : e.length ≤ bytesL L := by
  unfold bytesL
  exact mem_foldl_add _ 0 _ (List.mem_map_of_mem h)
theorem not_great {L : List (List UInt8)} (h : greatL L = false) : L.length ≤ 5000 ∧ ∀ e ∈ L, e.length ≤ 300000 := by
  unfold greatL at h
  simp only [Bool.or_eq_false_iff, decide_eq_false_iff_not] at h
  exact ⟨by omega, fun e he => by have := mem_bytesL he; omega⟩
theorem LentAt.lt {R : Nat → Prop} {w : World} {g c : Nat} {L : List (List UInt8)} (h : LentAt R w g c L) : LentAt (fun b => R b ∧ b < w.heap.size) w g c L := by
  obtain ⟨vs, m, h1, h2, h3, h4, mb, mc, rfl, h5, h6⟩ := h
  refine ⟨vs, _, h1, h2, ⟨h3, (h1.lt g rfl).2⟩, fun i x l hx hl => ?_, mb, mc, rfl, ⟨h5, (h6.lt mb rfl).2⟩, h6⟩
  obtain ⟨b, c, rfl, k1, k2⟩ := h4 i x l hx hl
  exact ⟨b, c, rfl, ⟨k1, (k2.lt b rfl).2⟩, k2⟩
theorem EntsAt.take {w : World} {a : Option Addr} {L : List (List UInt8)} (h : EntsAt w a L) (m : Nat) : EntsAt w a (L.take m) := fun hL => by
  obtain ⟨b, off, e, hc⟩ := h (fun e => hL (by rw [e]; simp))
  refine ⟨b, off, e, fun i d hd => hc i d ?_⟩
  rw [List.getElem?_take] at hd
  split at hd
  · exact hd
  · cases hd
end Go.Proofs.YtlmdpcaikhdenaaGreat
/- What is handed in, opened: bytes, with their room. -/
namespace Go.Proofs.YtlmdpcaikhdenaaGreat
open Go.RowKit Go.Maps Go.ChangeShapes Go.WideShapes Go.Deep
set_option maxRecDepth 1000000

theorem row_of_cellsC {w : World} {a : Addr} {n : Nat} {V : Nat → Value} (h : ∀ i, i < n → w.cell? (a.add i) = some (V i)) : RowAt w (some a) ((List.range n).map V) := fun hne => by
  have hn : 0 < n := by
    rcases Nat.eq_zero_or_pos n with h0 | h0
    · subst h0; simp at hne
    · exact h0
  obtain ⟨b, off, spot⟩ := a
  have h0 := World.cell?_spot (h 0 hn)
  have hspot : spot = none := by simpa [Addr.add] using h0
  subst hspot
  refine ⟨b, off, rfl, fun j u hu => ?_⟩
  rw [List.getElem?_map] at hu
  obtain ⟨i, hi, rfl⟩ := Option.map_eq_some_iff.1 hu
  obtain ⟨hj, hij⟩ := List.getElem?_eq_some_iff.1 hi
  simp at hj hij
  subst hij
  rw [← Go.WideShapes.add_plain]
  exact h j hj
section
variable {H : Type} {enc : TypeId × Value → H} {w : World} {base : Nat}
theorem op_bytesC {fuel : Nat} {v : Value} {x : DataW H × List MemPlace} (h : DataW.trod enc Tryz.prog w base (fun _ => true) true fuel 26 [v] = some x) :
    ∃ a c, ∃ l : List UInt8, v = .slice a l.length c ∧ l.length ≤ c ∧ (a = none → c = 0) ∧ RowAt w a (l.map bv) := by
  rcases open_slice1 Tryz.underlying26 (by kernel_rfl) h with ⟨hcs, rfl⟩ | ⟨a, len, cap, m, n, V, D, Pl, hcs, hb, hl, hm, hmm, rfl, hel⟩
  · simp only [List.cons.injEq, and_true] at hcs
    subst hcs
    exact ⟨none, 0, [], rfl, Nat.le_refl _, fun _ => rfl, RowAt.nil _ _⟩
  · simp only [List.cons.injEq, and_true] at hcs
    subst hcs
    simp only [if_true] at hmm
    subst hmm
    obtain ⟨B, hB⟩ := choose_lt (α := UInt8) (p := fun i b => V i = bv b) (fun i hi => by
      obtain ⟨c, h1, _, h3⟩ := DataW.trod_int Tryz.underlying5 (hel i hi).2
      have h4 := u8_of_wf h3
      simp only [List.cons.injEq, and_true] at h1
      refine ⟨UInt8.ofNat c.toNat, ?_⟩
      rw [h1]
      unfold bv
      congr 1
      rw [UInt8.toNat_ofNat']
      omega)
    refine ⟨some a, m, (List.range len).map B, by simp, by simp; omega, fun h => (by cases h), ?_⟩
    have hr := row_of_cellsC (w := w) (a := a) (n := len) (V := fun i => bv (B i)) (fun i hi => by rw [(hel i (by omega)).1, hB i (by omega)])
    rw [List.map_map]
    exact hr
end

end Go.Proofs.YtlmdpcaikhdenaaGreat
