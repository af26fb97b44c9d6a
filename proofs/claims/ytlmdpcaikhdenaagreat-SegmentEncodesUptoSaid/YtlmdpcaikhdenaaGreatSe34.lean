/- Texts of this claim, one behind the other: Shj, Shm, Shn. -/
import Derived.Test.YtlmdpcaikhdenaaGreatSe31
import Derived.Test.YtlmdpcaikhdenaaGreatSe32
import Derived.Test.YtlmdpcaikhdenaaGreatSe01
set_option linter.unusedSimpArgs false
set_option linter.unusedVariables false
/- Segment: Read, over any device whose Scan is known. -/
namespace Go.Proofs.YtlmdpcaikhdenaaGreat
open Go.RowKit Go.Maps Go.Shelf
attribute [local go_sem] Oper.semAt_some

theorem Chg.ret' {w w3 W : World} (hb : Below w.heap.size w w3) (hc : Chg (fun b => w.heap.size ≤ b) w3 W) : Below w.heap.size w W := hb.trans (hc.belowLo6 hb.size (fun _ h => h))
theorem chg_putObj6 (W : World) (l : Nat) (o : Obj) : Chg (· = l) W (W.putObj l o) := ⟨rfl, rfl, rfl, by simp [World.putObj], fun k _ hk => World.putObj_heap_other hk⟩
/-- what Read answers, of what Scan answers -/
def readE17 (f n : Int) (r : SegV × Nat) : List UInt8 × Nat :=
  if f < 0 ∨ 4611686018427387904 < f ∨ n < f then ([], 4)
  else if r.2 ≠ 0 then ([], r.2)
  else if n - f < (tellsN r.1.first r.1.entries.length : Int) then (r.1.entries.getD (n - f).toNat [], 0) else ([], 4)
def ReadPost17 (w : World) (r : List UInt8 × Nat) (e : Ending) (w' : World) : Prop :=
  ∃ U, e = .returned (.tuple #[U, .int .i64 (r.2 : Int)]) ∧ BytesIn w' (fun b => w.heap.size ≤ b) U r.1 ∧ Below w.heap.size w w'
set_option maxRecDepth 100000 in
set_option maxHeartbeats 4000000 in
theorem segread_bad {w : World} {dt : TypeId} {dp : Nat} {f n : Int} (hf : f < 0 ∨ 4611686018427387904 < f ∨ n < f) :
    Calls Tryz.prog 35 #[.iface dt (.pointer (some ⟨dp, 0, none⟩)), .int .i64 f, .int .i64 n] w (ReadPost17 w ([], 4)) := by
  obtain ⟨w1, hw1⟩ : ∃ w1, ((w.alloc (.cells #[.int .i64 n] 2)).alloc (.cells #[.slice none 0 0] 26)).alloc (.cells #[.int .i64 0] 27) = w1 := ⟨_, rfl⟩
  have hb1 : Below w.heap.size w w1 := by rw [← hw1]; exact ((below_alloc w _).alloc (by simp) _).alloc (by simp; omega) _
  have hx : w1.heap[w.heap.size]? = some (.cells #[.int .i64 n] 2 (0, 0)) ∧ w1.heap[w.heap.size + 1]? = some (.cells #[.slice none 0 0] 26 (0, 0)) ∧ w1.heap[w.heap.size + 2]? = some (.cells #[.int .i64 0] 27 (0, 0)) := by rw [← hw1]; exact alloc_at3 w _ _ _
  obtain ⟨hx0, hx1, hx2⟩ := hx
  have c0 := cell_of_heap hx0 (i := 0) (v := .int .i64 n) (by rfl)
  have z1 := frozen_of_heap (i := 0) hx1
  have z2 := frozen_of_heap (i := 0) hx2
  have m1 := cell_of_heap hx1 (i := 0) (v := .slice none 0 0) (by rfl)
  have m2 := cell_of_heap hx2 (i := 0) (v := .int .i64 0) (by rfl)
  obtain ⟨X, hX, hcX, x1, x2⟩ : ∃ X, (w1.setCell ⟨w.heap.size + 1, 0, none⟩ (.slice none 0 0)).setCell ⟨w.heap.size + 2, 0, none⟩ (.int .i64 4) = X ∧ Chg (fun b => w.heap.size ≤ b) w1 X ∧ X.heap[w.heap.size + 1]? = some (.cells #[.slice none 0 0] 26 (0, 0)) ∧ X.heap[w.heap.size + 2]? = some (.cells #[.int .i64 4] 27 (0, 0)) := by
    have s1 : Chg (· = w.heap.size + 1) w1 (w1.setCell ⟨w.heap.size + 1, 0, none⟩ (.slice none 0 0)) := Chg.set _ rfl
    have s2 : Chg (· = w.heap.size + 2) (w1.setCell ⟨w.heap.size + 1, 0, none⟩ (.slice none 0 0)) ((w1.setCell ⟨w.heap.size + 1, 0, none⟩ (.slice none 0 0)).setCell ⟨w.heap.size + 2, 0, none⟩ (.int .i64 4)) := Chg.set _ rfl
    exact ⟨_, rfl, (s1.mono (fun b h _ => by have h : b = w.heap.size + 1 := h; omega)).trans s2 (fun b h _ => by have h : b = w.heap.size + 2 := h; omega), s2.obj (heap_set_cells (i := 0) _ hx1) (by omega), heap_set_cells (i := 0) _ (s1.obj hx2 (by omega))⟩
  have y1 := cell_of_heap x1 (i := 0) (v := .slice none 0 0) (by rfl)
  have y2 := cell_of_heap x2 (i := 0) (v := .int .i64 4) (by rfl)
  have hbX : Below w.heap.size w X := Chg.ret' hb1 hcX
  have HW := Lib.hid hw1
  have HX := Lib.hid hX
  clear hw1 hx0 hx1 hx2 hX hcX hb1
  have fin : ∀ (W : World), W = X → BytesIn X (fun b => w.heap.size ≤ b) (.slice none 0 0) [] ∧ Below w.heap.size w W := fun W e => ⟨BytesIn.nil _ _, e ▸ hbX⟩
  have FIN := Lib.hid fin
  clear fin
  rcases hf with hf | hf | hf
  · have g1 : decide (f < 0) = true := by simpa using hf
    clear hf
    go_enter Tryz.func35, Tryz.ntmps35
    go_wp2_with (rw [HW.out])
    rw [HX.out]
    refine bodyPost_ret (v := .tuple #[.slice none 0 0, .int .i64 4]) (by simp [results, Tryz.results35, go_sem, y1, y2]) rfl ?_
    exact ⟨_, rfl, (FIN.out X rfl).1, (FIN.out X rfl).2⟩
  · have g1 : decide (f < 0) = false := by simp; omega
    have g2 : decide (4611686018427387904 < f) = true := by simpa using hf
    clear hf
    go_enter Tryz.func35, Tryz.ntmps35
    go_wp2_with (rw [HW.out])
    rw [HX.out]
    refine bodyPost_ret (v := .tuple #[.slice none 0 0, .int .i64 4]) (by simp [results, Tryz.results35, go_sem, y1, y2]) rfl ?_
    exact ⟨_, rfl, (FIN.out X rfl).1, (FIN.out X rfl).2⟩
  · by_cases h0 : f < 0
    · have g1 : decide (f < 0) = true := by simpa using h0
      clear hf h0
      go_enter Tryz.func35, Tryz.ntmps35
      go_wp2_with (rw [HW.out])
      rw [HX.out]
      refine bodyPost_ret (v := .tuple #[.slice none 0 0, .int .i64 4]) (by simp [results, Tryz.results35, go_sem, y1, y2]) rfl ?_
      exact ⟨_, rfl, (FIN.out X rfl).1, (FIN.out X rfl).2⟩
    · have g1 : decide (f < 0) = false := by simp; omega
      have g3 : decide (n < f) = true := by simpa using hf
      clear hf h0
      cases g2 : decide (4611686018427387904 < f) with
      | true =>
        go_enter Tryz.func35, Tryz.ntmps35
        go_wp2_with (rw [HW.out])
        rw [HX.out]
        refine bodyPost_ret (v := .tuple #[.slice none 0 0, .int .i64 4]) (by simp [results, Tryz.results35, go_sem, y1, y2]) rfl ?_
        exact ⟨_, rfl, (FIN.out X rfl).1, (FIN.out X rfl).2⟩
      | false =>
        go_enter Tryz.func35, Tryz.ntmps35
        go_wp2_with (rw [HW.out])
        rw [HX.out]
        refine bodyPost_ret (v := .tuple #[.slice none 0 0, .int .i64 4]) (by simp [results, Tryz.results35, go_sem, y1, y2]) rfl ?_
        exact ⟨_, rfl, (FIN.out X rfl).1, (FIN.out X rfl).2⟩
/-- what the loop of Read keeps -/
def RdI (n0 n4 : Nat) (w : World) (f n : Int) (k : Nat) (W : World) : Prop :=
  Below n0 w W ∧ n4 ≤ W.heap.size ∧ (W.heap[n0]? = some (.cells #[.int .i64 n] 2 (0, 0)) ∧ W.heap[n0 + 1]? = some (.cells #[.slice none 0 0] 26 (0, 0)) ∧ W.heap[n0 + 2]? = some (.cells #[.int .i64 0] 27 (0, 0))) ∧ f + k ≤ n
/-- how it is left -/
def RdX (n0 n4 : Nat) (w : World) (f n : Int) (L : List (List UInt8)) (W : World) : Prop :=
  Below n0 w W ∧ n4 ≤ W.heap.size ∧ ∃ U e, n - f < (tellsN f L.length : Int) ∧ L[(n - f).toNat]? = some e ∧ W.heap[n0 + 1]? = some (.cells #[U] 26 (0, 0)) ∧ W.heap[n0 + 2]? = some (.cells #[.int .i64 0] 27 (0, 0)) ∧ BytesIn W (fun b => n4 + 2 ≤ b) U e
set_option maxRecDepth 100000 in
set_option maxHeartbeats 16000000 in
theorem segread_any {w : World} {dt : TypeId} {dp : Nat} {f n : Int} (h0 : 0 ≤ f) (h1 : f ≤ 4611686018427387904) (hn : f ≤ n) {L : List (List UInt8)} {g z y : Int}
    (hS : ∀ W, Below w.heap.size w W → Calls Tryz.prog 21 #[.iface dt (.pointer (some ⟨dp, 0, none⟩)), .int .i64 f] W (ScanPost W (⟨f, L, g, z, y⟩, 0))) (hl : L.length ≤ 1000000000) (hb : ∀ e ∈ L, e.length ≤ 140737488355328) :
    Calls Tryz.prog 35 #[.iface dt (.pointer (some ⟨dp, 0, none⟩)), .int .i64 f, .int .i64 n] w (ReadPost17 w (readE17 f n (⟨f, L, g, z, y⟩, 0))) := by
  have hans : readE17 f n (⟨f, L, g, z, y⟩, 0) = if n - f < (tellsN f L.length : Int) then (L.getD (n - f).toNat [], 0) else ([], 4) := by
    unfold readE17; rw [if_neg (by omega), if_neg (by simp)]
  obtain ⟨w1, hw1⟩ : ∃ w1, ((w.alloc (.cells #[.int .i64 n] 2)).alloc (.cells #[.slice none 0 0] 26)).alloc (.cells #[.int .i64 0] 27) = w1 := ⟨_, rfl⟩
  have hb1 : Below w.heap.size w w1 := by rw [← hw1]; exact ((below_alloc w _).alloc (by simp) _).alloc (by simp; omega) _
  have hz1 : w1.heap.size = w.heap.size + 3 := by rw [← hw1]; simp
  have hx : w1.heap[w.heap.size]? = some (.cells #[.int .i64 n] 2 (0, 0)) ∧ w1.heap[w.heap.size + 1]? = some (.cells #[.slice none 0 0] 26 (0, 0)) ∧ w1.heap[w.heap.size + 2]? = some (.cells #[.int .i64 0] 27 (0, 0)) := by rw [← hw1]; exact alloc_at3 w _ _ _
  obtain ⟨hx0, hx1, hx2⟩ := hx
  have c0 := cell_of_heap hx0 (i := 0) (v := .int .i64 n) (by rfl)
  have hS1 : Calls Tryz.prog 21 #[.iface dt (.pointer (some ⟨dp, 0, none⟩)), .int .i64 f] w1 fun e w' => ∃ es, e = .returned (.tuple #[.agg #[.int .i64 f, es, .int .i64 g, .int .i64 z, .int .i64 y], .int .i64 0]) ∧ EntIn (fun b => w1.heap.size ≤ b) w' es L ∧ Below w1.heap.size w1 w' := hS w1 hb1
  have d1 : decide (f < 0) = false := by simp; omega
  have d2 : decide (4611686018427387904 < f) = false := by simp; omega
  have d3 : decide (n < f) = false := by simp; omega
  have HW := Lib.hid hw1
  have HZ := Lib.hid hz1
  have HX := Lib.hid (And.intro hx0 (And.intro hx1 hx2))
  have HB1 := Lib.hid hb1
  have HB := Lib.hid hb
  have HA := Lib.hid hans
  clear hw1 hz1 hx0 hx1 hx2 hb1 hb hS hans
  refine (callsIn_wide (n := 6)).1 ?_
  refine callsIn_of_wp_marks Tryz.func35 rfl trivial ?_ rfl
  simp only [Tryz.ntmps35, List.size_toArray, List.length_cons, List.length_nil, Nat.reduceAdd, Nat.reduceSub, Array.replicate_succ, Array.replicate_zero, List.push_toArray, List.append_toArray, List.nil_append, List.cons_append]
  refine wpIn_wide.2 ?_
  go_wp2_with (first
    | rw [HW.out]
    | (go_at_call 21; refine hS1.mono ?_; rintro _ w2 ⟨es, rfl, hE, hb2⟩; obtain ⟨ea, ec, rfl, hat⟩ := hE.at_; obtain ⟨w3, hw3⟩ : ∃ w3, w2.alloc (.cells #[.int .i64 f, .slice ea L.length ec, .int .i64 g, .int .i64 z, .int .i64 y] 42) = w3 := ⟨_, rfl⟩; have hb3 : Below w2.heap.size w2 w3 := (by rw [← hw3]; exact below_alloc _ _); have hx3 : w3.heap[w2.heap.size]? = some (.cells #[.int .i64 f, .slice ea L.length ec, .int .i64 g, .int .i64 z, .int .i64 y] 42 (0, 0)) := (by rw [← hw3]; exact World.alloc_heap_new w2 _); have HW3 := Lib.hid hw3; clear hw3; have p0 := cell_of_heap hx3 (i := 0) (v := .int .i64 f) (by rfl); have p1 := cell_of_heap hx3 (i := 1) (v := .slice ea L.length ec) (by rfl); have p2 := cell_of_heap hx3 (i := 2) (v := .int .i64 g) (by rfl); have p3 := cell_of_heap hx3 (i := 3) (v := .int .i64 z) (by rfl); have p4 := cell_of_heap hx3 (i := 4) (v := .int .i64 y) (by rfl); have hAll := all_any (w := w3) (c := ec) (f := f) (g := g) (z := z) (y := y) (hat.below hb3) hl HB.out)
    | rw [HW3.out]
    | (go_at_call 36; refine hAll.mono ?_; rintro _ w4 ⟨es4, rfl, hx4, hE4, hb4⟩))
  have hs1 := HB1.out.size
  have hz1 := HZ.out
  have hs2 := hb2.size
  have hs3 := hb3.size
  have hs4 := hb4.size
  have hb14 : Below w1.heap.size w1 w4 := (hb2.trans (hb3.mono hs2)).trans (hb4.mono (Nat.le_trans hs2 hs3))
  have hb04 : Below w.heap.size w w4 := HB1.out.trans (hb14.mono hs1)
  obtain ⟨hx0, hx1, hx2⟩ := HX.out
  have k0 := (hb14.block _ (heap_lt hx0)).trans hx0
  have k1 := (hb14.block _ (heap_lt hx1)).trans hx1
  have k2 := (hb14.block _ (heap_lt hx2)).trans hx2
  have hbd := heap_lt hx4
  clear p0 p1 p2 p3 p4 c0 hx0 hx1 hx2 hb2 hb3 hb4 hx3 hat hE hAll hS1
  refine (wpIn_wide (n := 6)).1 ?_
  refine wpIn_rangeFunc_Y rfl (by omega) (gf := 72) (lb := #[.pointer (some ⟨w3.heap.size, 0, none⟩)]) rfl trivial (enters_of Tryz.func72 (by kernel_rfl) rfl)
    (all1_seq (w := w4) 5 (by omega) h0 h1 (lo := w3.heap.size) (hi := w4.heap.size) hx4 ⟨Nat.le_refl _, hbd⟩ (hE4.kept (Chg.refl (fun _ => False) _) (fun _ _ h => h) (fun b hb => ⟨by omega, hb.2⟩)) (Nat.le_refl _) hl HB.out) (fun h k => h.trans k) (fun W o o' ho => KpB.of_chg (chg_putObj6 W _ _) (fun b hb => by right; omega) (by have := heap_lt ho; omega)) (Below.refl _ _) (fun _ => rfl) (fun _ _ _ _ h => h.grown)
    (fun pre W => RdI w.heap.size w4.heap.size w f n pre.length W)
    (fun c pre W => c = .ret ∧ RdX w.heap.size w4.heap.size w f n L W)
    ?gr ?lo ?lox ⟨hb04, Nat.le_refl _, ⟨k0, k1, k2⟩, by show f + ((0 : Nat) : Int) ≤ n; omega⟩ ?round ?done ?stop
  case gr =>
    rintro s A B ⟨g1, g2, ⟨g3, g4, g5⟩, g6⟩ hg
    have hc := Chg.of_grown (O := fun _ => False) hg (fun k e => by cases e)
    have hs := hc.size
    exact ⟨g1.grown hg g1.size (fun k e => by cases e), by omega, ⟨hc.obj g3 (fun h => h), hc.obj g4 (fun h => h), hc.obj g5 (fun h => h)⟩, g6⟩
  case lo =>
    rintro s W o o' ⟨g1, g2, ⟨g3, g4, g5⟩, g6⟩ ho
    have hc := chg_putObj6 W (w4.heap.size + 1) (.loop o')
    have hs := hc.size
    exact ⟨g1.trans (hc.belowLo6 g1.size (fun k hk => by omega)), by omega, ⟨hc.obj g3 (by omega), hc.obj g4 (by omega), hc.obj g5 (by omega)⟩, g6⟩
  case lox =>
    rintro c s W o o' ⟨g0, g1, g2, U, e, g3, g4, g5, g6, g7⟩ ho
    have hc := chg_putObj6 W (w4.heap.size + 1) (.loop o')
    have hs := hc.size
    exact ⟨g0, g1.trans (hc.belowLo6 g1.size (fun k hk => by omega)), by omega, U, e, g3, g4, hc.obj g5 (by omega), hc.obj g6 (by omega), g7.kept hc (fun b hb e => by omega) (fun _ h => h)⟩
  case round =>
    rintro l pre ⟨xi, xv⟩ W0 W ⟨g1, g2, ⟨g3, g4, g5⟩, g6⟩ ⟨y1, y2, ⟨e, he, hU⟩, hbY⟩ hlt
    have hsY := hbY.size
    have g1' : Below w.heap.size w W := g1.trans (hbY.mono g1.size)
    have g3' := (hbY.block _ (heap_lt g3)).trans g3
    have g4' := (hbY.block _ (heap_lt g4)).trans g4
    have g5' := (hbY.block _ (heap_lt g5)).trans g5
    simp only at y2
    subst y2
    simp only [encE]
    gi_wp2
    intro o o' ho
    obtain ⟨W2, hW2⟩ : ∃ W2, W.putObj (w4.heap.size + 1) (.loop o') = W2 := ⟨_, rfl⟩
    have hcP : Chg (· = w4.heap.size + 1) W W2 := by rw [← hW2]; exact chg_putObj6 _ _ _
    have hs2 := hcP.size
    rw [hW2]
    clear hW2
    have q0 := hcP.obj g3' (by omega)
    have q1 := hcP.obj g4' (by omega)
    have q2 := hcP.obj g5' (by omega)
    have hU2 := hU.kept (R' := fun b => W0.heap.size ≤ b) hcP (fun b hb e => by omega) (fun _ h => h)
    have c0 := cell_of_heap q0 (i := 0) (v := .int .i64 n) (by rfl)
    have z1 := frozen_of_heap (i := 0) q1
    have z2 := frozen_of_heap (i := 0) q2
    have m1 := cell_of_heap q1 (i := 0) (v := .slice none 0 0) (by rfl)
    have m2 := cell_of_heap q2 (i := 0) (v := .int .i64 0) (by rfl)
    obtain ⟨ua, uc, rfl, _⟩ := hU2.row
    have g12 : Below w.heap.size w W2 := g1'.trans (hcP.belowLo6 g1'.size (fun k hk => by omega))
    by_cases hi : f + (pre.length : Int) = n
    · have e1 : ((f + (pre.length : Int)) == n) = true := by simpa using hi
      have HF : Hid (n - f < (tellsN f L.length : Int) ∧ L[(n - f).toNat]? = some e) := Lib.hid ⟨by omega, by rw [show (n - f).toNat = pre.length from by omega]; exact he⟩
      obtain ⟨X, hX, hcX, x1, x2⟩ : ∃ X, (W2.setCell ⟨w.heap.size + 1, 0, none⟩ (.slice ua e.length uc)).setCell ⟨w.heap.size + 2, 0, none⟩ (.int .i64 0) = X ∧ Chg (fun b => b = w.heap.size + 1 ∨ b = w.heap.size + 2) W2 X ∧ X.heap[w.heap.size + 1]? = some (.cells #[.slice ua e.length uc] 26 (0, 0)) ∧ X.heap[w.heap.size + 2]? = some (.cells #[.int .i64 0] 27 (0, 0)) := by
        have s1 : Chg (· = w.heap.size + 1) W2 (W2.setCell ⟨w.heap.size + 1, 0, none⟩ (.slice ua e.length uc)) := Chg.set _ rfl
        have s2 : Chg (· = w.heap.size + 2) (W2.setCell ⟨w.heap.size + 1, 0, none⟩ (.slice ua e.length uc)) ((W2.setCell ⟨w.heap.size + 1, 0, none⟩ (.slice ua e.length uc)).setCell ⟨w.heap.size + 2, 0, none⟩ (.int .i64 0)) := Chg.set _ rfl
        exact ⟨_, rfl, (s1.mono (fun b h _ => Or.inl h)).trans s2 (fun b h _ => .inr h), s2.obj (heap_set_cells (i := 0) _ q1) (by omega), heap_set_cells (i := 0) _ (s1.obj q2 (by omega))⟩
      have HX2 := Lib.hid hX
      clear hX hi he y1 g6
      gi_wp2
      rw [HX2.out]
      have hsX := hcX.size
      refine ⟨fun k hk1 hk2 => hcX.block k (by omega) (fun hO => by omega), rfl, g12.trans (hcX.belowLo6 g12.size (fun k hk => by omega)), by omega, _, e, HF.out.1, HF.out.2, x1, x2, hU2.kept hcX (fun b hb e => by omega) (fun b hb => by omega)⟩
    · have e1 : ((f + (pre.length : Int)) == n) = false := by simpa using hi
      have HG6 : Hid (f + (pre ++ [((f + (pre.length : Int), .slice ua e.length uc) : Int × Value)]).length ≤ n) := Lib.hid (by simp; omega)
      clear hi he y1 g6
      gi_wp2
      exact ⟨fun k hk1 hk2 => rfl, KpB.of_chg hcP (fun b hb => by right; omega) (by omega), g12, by omega, ⟨q0, q1, q2⟩, HG6.out⟩
  case done =>
    rintro xs W hSx ⟨g1, g2, ⟨g3, g4, g5⟩, g6⟩ hD
    have z1 := frozen_of_heap (i := 0) g4
    have z2 := frozen_of_heap (i := 0) g5
    have m1 := cell_of_heap g4 (i := 0) (v := .slice none 0 0) (by rfl)
    have m2 := cell_of_heap g5 (i := 0) (v := .int .i64 0) (by rfl)
    have HR : Hid (readE17 f n (⟨f, L, g, z, y⟩, 0) = ([], 4)) := Lib.hid (by rw [HA.out, if_neg (by rw [← hSx]; omega)])
    obtain ⟨X, hX, hcX, x1, x2⟩ : ∃ X, (W.setCell ⟨w.heap.size + 1, 0, none⟩ (.slice none 0 0)).setCell ⟨w.heap.size + 2, 0, none⟩ (.int .i64 4) = X ∧ Chg (fun b => b = w.heap.size + 1 ∨ b = w.heap.size + 2) W X ∧ X.heap[w.heap.size + 1]? = some (.cells #[.slice none 0 0] 26 (0, 0)) ∧ X.heap[w.heap.size + 2]? = some (.cells #[.int .i64 4] 27 (0, 0)) := by
      have s1 : Chg (· = w.heap.size + 1) W (W.setCell ⟨w.heap.size + 1, 0, none⟩ (.slice none 0 0)) := Chg.set _ rfl
      have s2 : Chg (· = w.heap.size + 2) (W.setCell ⟨w.heap.size + 1, 0, none⟩ (.slice none 0 0)) ((W.setCell ⟨w.heap.size + 1, 0, none⟩ (.slice none 0 0)).setCell ⟨w.heap.size + 2, 0, none⟩ (.int .i64 4)) := Chg.set _ rfl
      exact ⟨_, rfl, (s1.mono (fun b h _ => Or.inl h)).trans s2 (fun b h _ => .inr h), s2.obj (heap_set_cells (i := 0) _ g4) (by omega), heap_set_cells (i := 0) _ (s1.obj g5 (by omega))⟩
    have HX2 := Lib.hid hX
    clear hX hSx g6
    gi_wp2
    go_wp2
    rw [HX2.out]
    have hDX := hcX.obj hD (by omega)
    refine ⟨by simp, .inl ⟨_, _, rfl, run_takeDeferred hDX, ?_⟩⟩
    have hg := chg_putObj6 X w4.heap.size (.deferred none)
    have y1 := cell_of_heap (hg.obj x1 (by omega)) (i := 0) (v := .slice none 0 0) (by rfl)
    have y2 := cell_of_heap (hg.obj x2 (by omega)) (i := 0) (v := .int .i64 4) (by rfl)
    have hcA : Below w.heap.size w (X.putObj w4.heap.size (.deferred none)) := (g1.trans (hcX.belowLo6 g1.size (fun k hk => by omega))).trans (hg.belowLo6 (by have := g1.size; have := hcX.size; omega) (fun k hk => by omega))
    exact ⟨.tuple #[.slice none 0 0, .int .i64 4], by simp [results, Tryz.results35, go_sem, y1, y2], by rw [HR.out]; exact ⟨_, rfl, BytesIn.nil _ _, hcA⟩⟩
  case stop =>
    rintro c pre W _ ⟨rfl, g1, g2, U, e, g3, g4, x1, x2, hU⟩ hD
    have HR : Hid (readE17 f n (⟨f, L, g, z, y⟩, 0) = (e, 0)) := Lib.hid (by rw [HA.out, if_pos g3, List.getD_eq_getElem?_getD, g4]; rfl)
    gi_wp2
    refine ⟨by simp, .inl ⟨_, _, rfl, run_takeDeferred hD, ?_⟩⟩
    have hg := chg_putObj6 W w4.heap.size (.deferred none)
    have y1 := cell_of_heap (hg.obj x1 (by omega)) (i := 0) (v := U) (by rfl)
    have y2 := cell_of_heap (hg.obj x2 (by omega)) (i := 0) (v := .int .i64 0) (by rfl)
    have hcA : Below w.heap.size w (W.putObj w4.heap.size (.deferred none)) := g1.trans (hg.belowLo6 g1.size (fun k hk => by omega))
    exact ⟨.tuple #[U, .int .i64 0], by simp [results, Tryz.results35, go_sem, y1, y2], by rw [HR.out]; exact ⟨_, rfl, hU.kept hg (fun b hb e => by omega) (fun b hb => by omega), hcA⟩⟩

end Go.Proofs.YtlmdpcaikhdenaaGreat
/- Segment: the law's kept. -/
namespace Go.Proofs.YtlmdpcaikhdenaaGreat
open Go.RowKit Go.Maps

theorem ownsRow_cell1 {w : World} {e : TypeId} {g n c : Nat} {xs : List Value} (h : w.ownsRow 0 e 1 (.slice (some ⟨g, 0, none⟩) n c) n xs) : n ≤ c ∧ ∀ (i : Nat) u, xs[i]? = some u → w.cell? ⟨g, i, none⟩ = some u := by
  obtain ⟨a, c', e, hc, _, hat⟩ := ownsRow_at h
  cases e
  refine ⟨hc, fun i u hu => ?_⟩
  obtain ⟨g', e, q⟩ := hat i u hu
  cases e
  exact q
set_option maxRecDepth 100000 in
set_option maxHeartbeats 8000000 in
theorem kept17_any {R : Nat → Prop} {w : World} {g c : Nat} {a : Option Addr} {ca : Nat} {L : List (List UInt8)} (h : LentAt R w g c L) (hE : EntsAt w a L) (hl : L.length ≤ 1000000000) (hb : ∀ e ∈ L, e.length ≤ 70368744177664) :
    Calls Tryz.prog 12 #[.slice (some ⟨g, 0, none⟩) L.length c, .slice a L.length ca] w fun e w' => e = .returned (.bool true) ∧ Below w.heap.size w w' := by
  have hmax : maxLen = 9223372036854775807 := rfl
  obtain ⟨vs, mk, h1, h2, h3, h4, mb, mc, rfl, h5, h6⟩ := h
  obtain ⟨hcap, hat⟩ := ownsRow_cell1 h1
  have hmk : w.cell? ⟨g, L.length, none⟩ = some (.slice (some ⟨mb, 0, none⟩) 1 mc) := hat L.length _ (by rw [List.getElem?_append_right (by omega), h2]; simp)
  obtain ⟨hmc, hmat⟩ := ownsRow_cell1 h6
  have hmrow : RowAt w (some ⟨mb, 0, none⟩) ([(119 : UInt8)].map bv) := by
    obtain ⟨a', c', e, hr, _⟩ := RowAt.of_owns h6
    cases e; exact hr
  have hsl := run_slice_hi (P := Tryz.prog) 22 26 Tryz.underlying22 Tryz.sizeOf26 (some ⟨g, 0, none⟩) L.length c (L.length + 1) hcap
  have e1 : IntKind.i64.wrap ((L.length : Int) + 1) = ((L.length + 1 : Nat) : Int) := (Go.IntWalk.i64_in _ (by omega)).trans (by omega)
  have j0 : (0 : Int) ≤ (L.length : Int) := by omega
  have j1 : (L.length : Int) < ((L.length + 1 : Nat) : Int) := by omega
  have i1 : ((L.length : Int) != (L.length : Int)) = false := by simp
  have q0 : (convert 26 9 (.slice (some ⟨mb, 0, none⟩) 1 mc)).run Tryz.prog w = .ok (.string ⟨#[119]⟩) w := run_conv (P := Tryz.prog) 26 9 5 Tryz.underlying26 Tryz.underlying5 Tryz.underlying9 (c := mc) (l := [119]) hmrow
  have HE := Lib.hid hE
  have HLB := Lib.hid hb
  have H4 := Lib.hid (And.intro h4 (And.intro h2 hat))
  clear h1 h2 h3 h4 h5 h6 hmat hat hE hb hmrow
  go_enter Tryz.func12, Tryz.ntmps12
  go_wp2
  clear hsl hmk e1 q0 j1
  go_loopw [5] (fun i wr => ∃ k : Nat, k ≤ L.length ∧ i = .int .i64 k ∧ Below w.heap.size w wr) (fun i _ => L.length - (RowKit.intOf i).toNat)
  case atStart => exact ⟨0, by omega, rfl, by first | exact Below.refl _ _ | exact below_drewN (Below.refl _ _) _⟩
  case round =>
    obtain ⟨k, hk, rfl, hb⟩ := hrel
    by_cases hlt : k < L.length
    · obtain ⟨h4, h2, hat⟩ := H4.out
      obtain ⟨x, hx⟩ : ∃ x, L[k]? = some x := ⟨L[k]'hlt, by simp⟩
      obtain ⟨y, hy⟩ : ∃ y, vs[k]? = some y := ⟨vs[k]'(by omega), by simp⟩
      have hxl := HLB.out x (List.mem_of_getElem? hx)
      obtain ⟨yb, yc, rfl, _, hyr⟩ := h4 k y x hy hx
      obtain ⟨hycap, hyat⟩ := ownsRow_cell1 hyr
      have hym : w.cell? ⟨yb, x.length, none⟩ = some (.int .u8 165) := hyat x.length _ (by rw [List.map_append, List.getElem?_append_right (by simp)]; simp [bv])
      have hyrow : RowAt w (some ⟨yb, 0, none⟩) (x.map bv) := by
        obtain ⟨a', c', e, hr, _⟩ := RowAt.of_owns hyr
        cases e
        have := hr.take x.length
        rwa [← List.map_take, List.take_left' rfl] at this
      have hyc := hat k _ (by rw [List.getElem?_append_left (by omega)]; exact hy)
      have u1 := (hb.cell (p := ⟨g, k, none⟩) (cell_lt hyc)).trans hyc
      have m1 := (hb.cell (p := ⟨yb, x.length, none⟩) (cell_lt hym)).trans hym
      obtain ⟨b1, o1, rfl, cc⟩ := (HE.out.below hb) (fun e => by rw [e] at hlt; simp at hlt)
      obtain ⟨ua, uc, u2, r2, _⟩ := cc k x hx
      have r1 : RowAt wr (some ⟨yb, 0, none⟩) (x.map bv) := hyrow.below hb
      have q1 : ∀ q, (convert 26 9 (.slice (some ⟨yb, 0, none⟩) x.length yc)).run Tryz.prog (wr.drewN q) = .ok (.string ⟨x.toArray⟩) (wr.drewN q) := fun q => run_conv (P := Tryz.prog) 26 9 5 Tryz.underlying26 Tryz.underlying5 Tryz.underlying9 (c := yc) (r1.below (below_drewN (Below.refl _ wr) q))
      have q2 : ∀ q, (convert 26 9 (.slice ua x.length uc)).run Tryz.prog (wr.drewN q) = .ok (.string ⟨x.toArray⟩) (wr.drewN q) := fun q => run_conv (P := Tryz.prog) 26 9 5 Tryz.underlying26 Tryz.underlying5 Tryz.underlying9 (c := uc) (r2.below (below_drewN (Below.refl _ wr) q))
      have hsl := run_slice_hi (P := Tryz.prog) 26 5 Tryz.underlying26 Tryz.sizeOf5 (some ⟨yb, 0, none⟩) x.length yc (x.length + 1) hycap
      have e1 : IntKind.i64.wrap ((x.length : Int) + 1) = ((x.length + 1 : Nat) : Int) := (Go.IntWalk.i64_in _ (by omega)).trans (by omega)
      have e3 : (x == x) = true := by simp
      have e4 : (x != x) = false := by simp
      have k0 : (0 : Int) ≤ (k : Int) := by omega
      have k1 : (k : Int) < (L.length : Int) := by omega
      have k2 : (0 : Int) ≤ (x.length : Int) := by omega
      have k3 : (x.length : Int) < ((x.length + 1 : Nat) : Int) := by omega
      clear cc hx hy hyrow hyat hyr hym hyc h4 h2 hat r1 r2
      go_wp2
      go_quiet (fail)
      go_wp2
      go_roundw
      case rel => exact ⟨k + 1, by omega, by go_num, below_drewN hb _⟩
      case measure => simp [RowKit.intOf]; omega
    · obtain rfl : k = L.length := by omega
      go_wp2
      go_ret
      exact ⟨rfl, hb⟩

end Go.Proofs.YtlmdpcaikhdenaaGreat
/- Segment: the law's goes. -/
namespace Go.Proofs.YtlmdpcaikhdenaaGreat
open Go.RowKit Go.Maps Go.Shelf
attribute [local go_sem] Oper.semAt_some

theorem alloc_at5 (w : World) (a b c d e : Obj) : (((((w.alloc a).alloc b).alloc c).alloc d).alloc e).heap[w.heap.size]? = some a ∧ (((((w.alloc a).alloc b).alloc c).alloc d).alloc e).heap[w.heap.size + 1]? = some b ∧ (((((w.alloc a).alloc b).alloc c).alloc d).alloc e).heap[w.heap.size + 2]? = some c ∧ (((((w.alloc a).alloc b).alloc c).alloc d).alloc e).heap[w.heap.size + 3]? = some d ∧ (((((w.alloc a).alloc b).alloc c).alloc d).alloc e).heap[w.heap.size + 4]? = some e := by
  obtain ⟨h1, h2, h3, h4⟩ := alloc_at4 w a b c d
  have e4 : ((((w.alloc a).alloc b).alloc c).alloc d).heap.size = w.heap.size + 4 := by simp
  refine ⟨(Below.heap_alloc _ _ _ (by omega)).trans h1, (Below.heap_alloc _ _ _ (by omega)).trans h2, (Below.heap_alloc _ _ _ (by omega)).trans h3, (Below.heap_alloc _ _ _ (by omega)).trans h4, ?_⟩
  have := World.alloc_heap_new ((((w.alloc a).alloc b).alloc c).alloc d) e
  rwa [e4] at this
/-- what the loop of goes keeps -/
def GoI (n0 : Nat) (w : World) (f leave : Int) (v : Value) (k : Nat) (W : World) : Prop :=
  Below n0 w W ∧ n0 + 5 ≤ W.heap.size ∧ W.heap[n0]? = some (.cells #[.int .i64 f] 2 (0, 0)) ∧ W.heap[n0 + 1]? = some (.cells #[v] 22 (0, 0)) ∧ W.heap[n0 + 2]? = some (.cells #[.int .i64 leave] 3 (0, 0)) ∧ W.heap[n0 + 3]? = some (.cells #[.bool false] 4 (0, 0)) ∧ W.heap[n0 + 4]? = some (.cells #[.int .i64 (k : Int)] 3 (0, 0))
theorem GoI.chg {n0 : Nat} {w : World} {f leave : Int} {v : Value} {k : Nat} {W W' : World} (h : GoI n0 w f leave v k W) {O : Nat → Prop} (hc : Chg O W W') (hO : ∀ b, O b → n0 + 5 ≤ b) : GoI n0 w f leave v k W' := by
  obtain ⟨h1, h2, h3, h4, h5, h6, h7⟩ := h
  have hs := hc.size
  have q : ∀ b, b < n0 + 5 → ¬ O b := fun b hb ho => by have := hO b ho; omega
  exact ⟨h1.trans (hc.belowLo6 (by omega) (fun b hb => by have := hO b hb; omega)), by omega, hc.obj h3 (q _ (by omega)), hc.obj h4 (q _ (by omega)), hc.obj h5 (q _ (by omega)), hc.obj h6 (q _ (by omega)), hc.obj h7 (q _ (by omega))⟩
/-- how it is left -/
def GoX (n0 : Nat) (w : World) (W : World) : Prop := Below n0 w W ∧ n0 + 5 ≤ W.heap.size ∧ W.heap[n0 + 3]? = some (.cells #[.bool true] 4 (0, 0))
theorem func_nil (w : World) (f : Fn) (x y : Array Value) : (binOp .eql 87 (.func f x y) .nilFunc).run Tryz.prog w = .ok (.bool false) w := by
  kernel_rfl

end Go.Proofs.YtlmdpcaikhdenaaGreat
