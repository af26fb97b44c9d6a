/- Texts of this claim, one behind the other: IbX, Quiet. -/
import Derived.Test.YtljobojdcnhecaaFm21
import Derived.Test.YtljobojdcnhecaaFm20
import Derived.OwnWalkIn
import Derived.Lib.QuietBelowIn
import Derived.Test.YtljobojdcnhecaaFm01
set_option linter.unusedSimpArgs false
set_option linter.unusedVariables false
set_option maxRecDepth 100000
set_option maxHeartbeats 16000000
namespace Go.Proofs.Ytljobojdcnhecaa
/- Find: the law's alike: two indexes tell the same in order. -/
open Go.RowKit Go.Maps Go.MapKept
attribute [local go_sem] Oper.semAt_some

theorem chg_putObj6 (W : World) (l : Nat) (o : Obj) : Chg (· = l) W (W.putObj l o) := ⟨rfl, rfl, rfl, by simp [World.putObj], fun k _ hk => World.putObj_heap_other hk⟩
theorem Chg.belowLo6 {O : Nat → Prop} {w w' : World} {lo : Nat} (h : Chg O w w') (hlo : lo ≤ w.heap.size) (hO : ∀ k, O k → lo ≤ k) : Below lo w w' := ⟨h.os, h.tape, h.output, h.size, fun k hk => h.block k (by omega) (fun ho => by have := hO k ho; omega)⟩
theorem func_nil (w : World) (f : Fn) (x y : Array Value) : (binOp .eql 35 (.func f x y) .nilFunc).run Try.prog w = .ok (.bool false) w := by
  kernel_rfl
theorem KpO.of_chg {v : Value} {O : Nat → Prop} {A B : World} {hi : Nat} (h : Chg O A B) (hv : ∀ b, v.ownBlock = some b → b < hi) (hO : ∀ b, b < hi → ¬ O b) (hh : hi ≤ A.heap.size) : KpO v A B := ⟨h.size, fun b hb => h.block b (by have := hv b hb; omega) (hO b (hv b hb))⟩
/-- what the first loop gathers: numbers, in the block g9 and a row behind lo -/
structure GatI (w : World) (gy g9 lo hi : Nat) (vy : Value) (pre : List PN) (W : World) : Prop where
  below : Below w.heap.size w W
  size : hi ≤ W.heap.size
  said : W.heap[w.heap.size]? = some (.cells #[.bool false] 4 (0, 0))
  box : W.heap[gy]? = some (.cells #[vy] 24 (0, 0))
  row : ∃ v, W.heap[g9]? = some (.cells #[v] 41 (0, 0)) ∧ W.ownsRow lo 3 1 v pre.length ((pre.map (·.2)).map iv)
theorem GatI.chg {w W W' : World} {gy g9 lo hi hi' : Nat} {vy : Value} {pre : List PN} (h : GatI w gy g9 lo hi vy pre W) {O : Nat → Prop} (hc : Chg O W W') (h1 : ∀ b, O b → hi' ≤ b ∧ b < lo) (h0 : w.heap.size < hi' ∧ gy < hi' ∧ g9 < hi') : GatI w gy g9 lo hi vy pre W' := by
  obtain ⟨k1, k5, k2, k3, v, k4, k6⟩ := h
  have hs := hc.size
  have q : ∀ b, b < hi' → ¬ O b := fun b hb ho => by have := h1 b ho; omega
  exact ⟨k1.trans (hc.belowLo6 k1.size (fun k hk => by have := h1 k hk; omega)), by omega, hc.obj k2 (q _ h0.1), hc.obj k3 (q _ h0.2.1), v, hc.obj k4 (q _ h0.2.2), hc.row k6 (fun b hb ho => by have := h1 b ho; have := (row_blk k6 hb).1; omega)⟩
/-- what the second loop has left -/
structure GatJ (w W5 : World) (g9 : Nat) (O : List PN) (pre : List PN) (W : World) : Prop where
  below : Below w.heap.size w W
  chg : Chg (fun b => b = g9 ∨ W5.heap.size ≤ b) W5 W
  said : W.heap[w.heap.size]? = some (.cells #[.bool false] 4 (0, 0))
  row : ∃ a c, O.length - pre.length ≤ c ∧ W.heap[g9]? = some (.cells #[.slice a (O.length - pre.length) c] 41 (0, 0)) ∧ RowAt W5 a (((O.map (·.2)).map iv).drop pre.length) ∧ ∀ x, a = some x → x.block ≠ g9
theorem GatJ.kept {w W5 W W' : World} {g9 : Nat} {O pre : List PN} (h : GatJ w W5 g9 O pre W) {S : Nat → Prop} (hc : Chg S W W') (h1 : ∀ b, S b → W5.heap.size ≤ b) (h0 : w.heap.size < W5.heap.size ∧ g9 < W5.heap.size) : GatJ w W5 g9 O pre W' := by
  obtain ⟨k1, k2, k3, a, c, k4, k5, k6, k7⟩ := h
  have hs := hc.size
  have q : ∀ b, b < W5.heap.size → ¬ S b := fun b hb ho => by have := h1 b ho; omega
  exact ⟨k1.trans (hc.belowLo6 k1.size (fun k hk => by have := h1 k hk; omega)), k2.trans (hc.mono (fun b hb _ => Or.inr (h1 b hb))) (fun _ h _ => h), hc.obj k3 (q _ h0.1), a, c, k4, hc.obj k5 (q _ h0.2), k6, k7⟩
theorem subAtK_block {a : Option Addr} {c l k : Nat} {g : Nat} (h : ∀ x, a = some x → x.block ≠ g) : ∀ x, subAtK a c l k = some x → x.block ≠ g := by
  intro x hx
  unfold subAtK at hx
  split at hx
  · exact h x hx
  · cases a with
    | none => cases hx
    | some y =>
      simp only [Option.map_some, Option.some.injEq] at hx
      rw [← hx]
      have := h y rfl
      unfold Addr.add
      split <;> simpa using this
theorem alike_any {F G F' G' : Nat → Prop} {w : World} {bx bY : Nat} {E : List (List UInt8)} {n : Int} (hX : XAt F G w bx E) (hY : XAt F' G' w bY E) (hE : E.length ≤ 4194304) (hn : 0 ≤ n) :
    Calls Try.prog 15 #[.pointer (some ⟨bx, 0, none⟩), .pointer (some ⟨bY, 0, none⟩), .int .i64 n] w fun e w' => e = .returned (.bool true) ∧ Below w.heap.size w w' := by
  obtain ⟨i2, hi2, hv0, hv1, hv2⟩ := info_parts Try.info3
  obtain ⟨O, hOe⟩ : ∃ O, ordN (E.map leaf) = O := ⟨_, rfl⟩
  have hOl : O.length = E.length := by rw [← hOe, ordN_length, List.length_map]
  obtain ⟨ve, vo, vm, x1, -, -, -, x5, -, -⟩ := hX
  obtain ⟨ve', vo', vm', y1, -, -, -, y5, -, -⟩ := hY
  rw [List.length_map, ← hOl, hOe] at x5 y5
  have hok : Ok32 O := by rw [← hOe]; exact (leafs_len E).ord
  obtain ⟨w1, hw1, hb1, hz1, hs1⟩ := al1 w #[.bool false] 4
  have cA := all_any w1 (.pointer (some ⟨bx, 0, none⟩)) (.inr ⟨bx, rfl⟩)
  have HA := Lib.hid (And.intro hb1 (And.intro hz1 hs1))
  have HXY := Lib.hid (And.intro x1 (And.intro x5 (And.intro y1 y5)))
  have HO := Lib.hid (And.intro hok hOl)
  clear hb1 hs1 x1 x5 y1 y5 hok hOe hOl hz1
  have hnf := func_nil
  refine (callsIn_wide (n := 6)).1 ?_
  refine callsIn_of_wp_marks Try.func15 rfl trivial ?_ rfl
  simp only [Try.ntmps15, List.size_toArray, List.length_cons, List.length_nil, Nat.reduceAdd, Nat.reduceSub, Array.replicate_succ, Array.replicate_zero, List.push_toArray, List.append_toArray, List.nil_append, List.cons_append]
  refine wpIn_wide.2 ?_
  go_wp2_with ((with_reducible refine cA.mono ?_); rintro _ w2 ⟨rfl, hx2, hb2⟩)
  have cB := all_any w2 (.pointer (some ⟨bY, 0, none⟩)) (.inr ⟨bY, rfl⟩)
  clear cA
  go_wp2_with ((with_reducible refine cB.mono ?_); rintro _ w3 ⟨rfl, hx3, hb3⟩)
  clear cB
  obtain ⟨w4, hw4, hb4, hz4, hx4⟩ := al1 w3 #[.slice none 0 0] 41
  rw [hw4]
  have hz2 := hb2.size
  have hz3 := hb3.size
  obtain ⟨gx, hgx⟩ : ∃ gx, w1.heap.size = gx := ⟨_, rfl⟩
  obtain ⟨gy, hgy⟩ : ∃ gy, w2.heap.size = gy := ⟨_, rfl⟩
  obtain ⟨g9, hg9⟩ : ∃ g9, w3.heap.size = g9 := ⟨_, rfl⟩
  rw [hgx] at hx2 ⊢
  rw [hgy] at hx3 ⊢
  rw [hg9] at hx4 ⊢
  have hza := HA.out.2.1
  have hlt3 := heap_lt hx3
  have hlt2 := heap_lt hx2
  have hB4 : Below w.heap.size w w4 := HA.out.1.trans ((hb2.trans ((hb3.mono hz2).trans (hb4.mono (by omega)))).mono HA.out.1.size)
  have hbb : Below w1.heap.size w1 w4 := hb2.trans ((hb3.mono hz2).trans (hb4.mono (by omega)))
  have hI : GatI w gy g9 (w4.heap.size + 2) w4.heap.size (.pointer (some ⟨bY, 0, none⟩)) [] w4 := ⟨hB4, Nat.le_refl _, (hbb.block _ (by omega)).trans HA.out.2.2, (hb4.block _ hlt3).trans hx3, _, hx4, World.ownsRow_nil _ _ _ _⟩
  have hqx := all1_seq 5 (by omega) (w := w4) (gx := gx) ((((hb3.mono (Nat.le_refl _)).trans (hb4.mono hz3)).block _ hlt2).trans hx2) ((hB4.block _ (heap_lt HXY.out.1)).trans HXY.out.1) (row_below HXY.out.2.1 hB4) HO.out.1 (by have := HO.out.2; omega)
  have HI := Lib.hid hI
  have HZ := Lib.hid (show w.heap.size < w4.heap.size ∧ gy < w4.heap.size ∧ g9 < w4.heap.size by omega)
  have HY0 := Lib.hid (show w.heap.size < gy ∧ gy < g9 ∧ g9 < w4.heap.size by omega)
  have HB4 := Lib.hid hB4
  clear hw4 hb4 hz4 hx4 hz2 hz3 hgx hgy hg9 hx2 hx3 hza hlt3 hlt2 hbb hI hB4 hb2 hb3
  refine (wpIn_wide (n := 6)).1 ?_
  refine wpIn_rangeFunc_Y rfl (by omega) (gf := 31) (lb := #[.pointer (some ⟨gx, 0, none⟩)]) rfl trivial (enters_of Try.func31 (by kernel_rfl) rfl)
    (w0 := w4) hqx (fun h k => h.trans k) (fun W o o' ho => KpO.of_chg (hi := w4.heap.size) (chg_putObj6 W _ _) (fun b hb => by have := (row_blk HXY.out.2.1 hb).2; have := HZ.out; omega) (fun b hb h => by omega) (by have := heap_lt ho; omega)) (Below.refl _ _) (fun _ => rfl) (fun _ _ _ _ h => h.grown)
    (fun pre W => GatI w gy g9 (w4.heap.size + 2) w4.heap.size (.pointer (some ⟨bY, 0, none⟩)) pre W)
    (fun c pre W => False)
    ?gr ?lo ?lox HI.out ?round ?done ?stop
  case gr =>
    rintro s A B g1 hg
    exact g1.chg (Chg.of_grown (O := fun _ => False) hg (fun k e => by cases e)) (fun _ h => h.elim) HZ.out
  case lo =>
    rintro s W o o' g1 ho
    exact g1.chg (chg_putObj6 W (w4.heap.size + 1) (.loop o')) (fun b hb => by omega) HZ.out
  case lox => rintro c s W o o' g0 ho; exact g0
  case round =>
    rintro l pre x W0 W g1 ⟨y1, hbY⟩ hlt
    have g2 := g1.chg (Chg.of_below (O := fun _ => False) hbY) (fun _ h => h.elim) HZ.out
    have hsY := hbY.size
    simp only [encP]
    gi_wp2
    refine ⟨fun _ _ _ => trivial, ?_⟩
    intro o o' ho
    obtain ⟨W2, hW2⟩ : ∃ W2, W.putObj (w4.heap.size + 1) (.loop o') = W2 := ⟨_, rfl⟩
    have hcP : Chg (· = w4.heap.size + 1) W W2 := by rw [← hW2]; exact chg_putObj6 _ _ _
    have hs2 := hcP.size
    rw [hW2]
    clear hW2
    obtain ⟨m0, m1, m2, m3, v, m4, m5⟩ := g2.chg hcP (fun b hb => by omega) HZ.out
    have c9 := cell_of_heap m4 (i := 0) (v := v) (by rfl)
    obtain ⟨w6, hw6, hb6, hz6, hx6⟩ := al1 W2 #[.int .i64 (x.2 : Int)] 3
    have hr6 := row_below m5 hb6
    have hpl : pre.length + 1 ≤ 4194304 := by have := (List.getElem?_eq_some_iff.1 y1).1; have := HO.out.2; omega
    have HM := Lib.hid (And.intro m0 (And.intro m2 (And.intro m3 (And.intro m4 m5))))
    have HP := Lib.hid hcP
    clear m0 m2 m3 m4 m5 g1 g2 hcP
    gi_wp2_with (gi_at_builtin; refine wpListIn_append_own _ rfl (.tmp 27) (.tmp 29) 41 rfl (w4.heap.size + 2) 3 i2 (.int .i64 0) 1 8 Try.underlying41 hi2 hv0 hv1 hv2 rfl (by decide) v pre.length _ rfl hr6 ⟨W2.heap.size, 0, none⟩ 1 1 [iv x.2] rfl rfl (fun j u hu => by cases j with | zero => (simp at hu; subst hu; exact ce0 hx6) | succ j => simp at hu) iv_one1 (by unfold maxLen; omega) (by omega) (by omega) ?_; intro v8 w8 hr8 hg8 _; (
      obtain ⟨g8, c8, rfl⟩ := row_some hr8 (Nat.succ_pos _)
      have m8 : w8.heap[g9]? = some (.cells #[v] 41 (0, 0)) := (hg8.block g9 (by have := HZ.out; omega) (fun e => by have := (row_blk hr6 e.symm).1; have := HZ.out; omega)).trans ((hb6.block g9 (by have := HZ.out; omega)).trans HM.out.2.2.2.1)
      have q8 := cell_of_heap m8 (i := 0) (v := v) (by rfl)
      have f8 := frozen_of_heap (i := 0) m8
      have H8 := Lib.hid (And.intro m8 (And.intro hr8 hg8))
      clear m8 hr8 hg8))
    obtain ⟨X, hX, hcX⟩ : ∃ X, w8.setCell ⟨g9, 0, none⟩ (.slice (some ⟨g8, 0, none⟩) (pre.length + 1) c8) = X ∧ Chg (· = g9) w8 X := ⟨_, rfl, Chg.set _ rfl⟩
    rw [hX]
    obtain ⟨h8a, h8b, h8c⟩ := H8.out
    obtain ⟨m0, m2, m3, m4, m5⟩ := HM.out
    have hz := HZ.out
    have hy := HY0.out
    have hc8 : Chg (fun b => w4.heap.size + 2 ≤ b) W2 w8 := (Chg.of_below (O := fun b => w4.heap.size + 2 ≤ b) hb6).trans (Chg.of_grown (O := fun b => w4.heap.size + 2 ≤ b) h8c (fun k e _ => (row_blk hr6 e).1)) (fun _ h _ => h)
    have hcT : Chg (fun b => b = g9 ∨ w4.heap.size + 2 ≤ b) W2 X := (hc8.mono (fun b h _ => Or.inr h)).trans hcX (fun b h _ => .inl h)
    have hsT := hcT.size
    have hsX := hcX.size
    refine ⟨fun k h1 h2 => hcT.block k (by omega) (by omega), KpO.of_chg (hi := w.heap.size) ((HP.out.mono (O' := fun b => w4.heap.size + 1 = b ∨ b = g9 ∨ w4.heap.size + 2 ≤ b) (fun b h _ => .inl h.symm)).trans hcT (fun b h _ => .inr h)) (fun b hb => (row_blk HXY.out.2.1 hb).2) (fun b hb => by omega) (by omega), m0.trans (hcT.belowLo6 m0.size (fun k hk => by omega)), by omega, hcT.obj m2 (by omega), hcT.obj m3 (by omega), .slice (some ⟨g8, 0, none⟩) (pre.length + 1) c8, ?_, ?_⟩
    · rw [← hX]; exact heap_set_cells (i := 0) _ h8a
    · rw [List.length_append, List.map_append, List.map_append]
      exact hcX.row h8b (fun b hb e => by have := (row_blk h8b hb).1; omega)
  case done =>
    rintro xs W5 hSx g1 hD
    rw [show xs = O from hSx] at g1
    clear hSx
    obtain ⟨m0, m1, m2, m3, v, m4, m5⟩ := g1
    have hqy := all1_seq 5 (by omega) (w := W5) (gx := gy) m3 ((m0.block _ (heap_lt HXY.out.2.2.1)).trans HXY.out.2.2.1) (row_below HXY.out.2.2.2 m0) HO.out.1 (by have := HO.out.2; omega)
    have hlen : ((O.map (·.2)).map iv).length = O.length := by simp
    have hz5 : w.heap.size < W5.heap.size ∧ g9 < W5.heap.size ∧ w4.heap.size < W5.heap.size := by have := HZ.out; have := heap_lt hD; exact ⟨by omega, by omega, by omega⟩
    have hJ : GatJ w W5 g9 O [] W5 := by
      obtain ⟨va, vc, rfl, hvc, -, hvr, hvo⟩ := row_slice2 m5
      refine ⟨m0, Chg.refl _ _, m2, va, vc, by simpa using hvc, m4, hvr, fun x hx e => ?_⟩
      have h1 := (row_blk m5 (hvo x hx).2.1).1
      have := HZ.out
      omega
    have HJ := Lib.hid hJ
    have HD5 := Lib.hid hD
    have HZ5 := Lib.hid hz5
    clear hqx m0 m1 m2 m3 m4 m5 hJ hD hz5
    go_wp2
    refine (wpIn_wide (n := 6)).1 ?_
    refine wpIn_rangeFunc_Y rfl (by omega) (gf := 31) (lb := #[.pointer (some ⟨gy, 0, none⟩)]) rfl trivial (enters_of Try.func31 (by kernel_rfl) rfl)
      (w0 := W5) hqy (fun h k => h.trans k) (fun W o o' ho => KpO.of_chg (hi := W5.heap.size) (chg_putObj6 W _ _) (fun b hb => by have := (row_blk HXY.out.2.2.2 hb).2; have := HZ5.out; omega) (fun b hb h => by omega) (by have := heap_lt ho; omega)) (Below.refl _ _) (fun _ => rfl) (fun _ _ _ _ h => h.grown)
      (fun pre W => GatJ w W5 g9 O pre W)
      (fun c pre W => False)
      ?gr2 ?lo2 ?lox2 HJ.out ?round2 ?done2 ?stop2
    case gr2 =>
      rintro s A B g1 hg
      exact g1.kept (Chg.of_grown (O := fun _ => False) hg (fun k e => by cases e)) (fun _ h => h.elim) ⟨HZ5.out.1, HZ5.out.2.1⟩
    case lo2 =>
      rintro s W o o' g1 ho
      exact g1.kept (chg_putObj6 W (W5.heap.size + 1) (.loop o')) (fun b hb => by omega) ⟨HZ5.out.1, HZ5.out.2.1⟩
    case lox2 => rintro c s W o o' g0 ho; exact g0
    case round2 =>
      rintro l pre x W0 W g1 ⟨y1, hbY⟩ hlt
      have g2 := g1.kept (Chg.of_below (O := fun _ => False) hbY) (fun _ h => h.elim) ⟨HZ5.out.1, HZ5.out.2.1⟩
      have hsY := hbY.size
      simp only [encP]
      gi_wp2
      refine ⟨fun _ _ _ => trivial, ?_⟩
      intro o o' ho
      obtain ⟨W2, hW2⟩ : ∃ W2, W.putObj (W5.heap.size + 1) (.loop o') = W2 := ⟨_, rfl⟩
      have hcP : Chg (· = W5.heap.size + 1) W W2 := by rw [← hW2]; exact chg_putObj6 _ _ _
      have hs2 := hcP.size
      rw [hW2]
      clear hW2
      obtain ⟨m0, m1, m2, a, c, m3, m4, m5, m6⟩ := g2.kept hcP (fun b hb => by omega) ⟨HZ5.out.1, HZ5.out.2.1⟩
      have hpl : pre.length < O.length := (List.getElem?_eq_some_iff.1 y1).1
      have hx0 : (((O.map (·.2)).map iv).drop pre.length)[0]? = some (.int .i64 (x.2 : Int)) := by rw [List.getElem?_drop, Nat.add_zero, List.getElem?_map, List.getElem?_map, y1]; rfl
      obtain ⟨ab, ao, rfl, hcell⟩ := m5 (fun e => by rw [e] at hx0; cases hx0)
      have q0 : W2.cell? ⟨ab, ao, none⟩ = some (.int .i64 (x.2 : Int)) := by
        have h5 := hcell 0 _ hx0
        rw [Nat.add_zero] at h5
        refine m1.cell h5 (fun h => ?_)
        rcases h with h | h
        · exact m6 _ rfl h
        · have := cell_lt h5
          simp only at this h
          omega
      have c9 := cell_of_heap m4 (i := 0) (v := .slice (some ⟨ab, ao, none⟩) (O.length - pre.length) c) (by rfl)
      have f9 := frozen_of_heap (i := 0) m4
      obtain ⟨N, hN⟩ : ∃ N, O.length - pre.length = N + 1 := ⟨O.length - pre.length - 1, by omega⟩
      rw [hN] at m3 m4 c9
      have hsl := run_slice_loKA (P := Try.prog) 41 3 1 Try.underlying41 Try.sizeOf3 (some ⟨ab, ao, none⟩) (N + 1) c 1 (by omega)
      obtain ⟨a2, ha2⟩ : ∃ a2, subAtK (some ⟨ab, ao, none⟩) c 1 1 = a2 := ⟨_, rfl⟩
      have hsl' : ∀ w, (Instr.slice 41 (.slice (some ⟨ab, ao, none⟩) (N + 1) c) (some (.int .i64 1)) none none).run Try.prog w = .ok (.slice a2 N (c - 1)) w := fun w => by
        have := hsl w
        rw [ha2] at this
        exact this
      have d1 : (((N + 1 : Nat) : Int) == 0) = false := by simp; omega
      have d2 : ((x.2 : Int) != (x.2 : Int)) = false := by simp
      have j0 : (0 : Int) < ((N + 1 : Nat) : Int) := by omega
      have H2 := Lib.hid (And.intro m0 (And.intro m1 (And.intro m2 (And.intro m3 (And.intro m4 (And.intro m5 (And.intro m6 ha2)))))))
      clear hsl ha2 m0 m1 m2 m3 m4 m5 m6 hcell hx0 g1 g2
      gi_wp2
      obtain ⟨X, hX, hcX⟩ : ∃ X, W2.setCell ⟨g9, 0, none⟩ (.slice a2 N (c - 1)) = X ∧ Chg (· = g9) W2 X := ⟨_, rfl, Chg.set _ rfl⟩
      rw [hX]
      obtain ⟨m0, m1, m2, m3, m4, m5, m6, ha2⟩ := H2.out
      have hz5 := HZ5.out
      have hz := HZ.out
      have hy0 := HY0.out
      have hsX := hcX.size
      have hNl : O.length - (pre ++ [x]).length = N := by simp; omega
      have hc1 : Chg (fun b => b = g9 ∨ W5.heap.size ≤ b) W X := (hcP.mono (O' := fun b => b = g9 ∨ W5.heap.size ≤ b) (fun b h _ => .inr (by omega))).trans hcX (fun b h _ => .inl h)
      refine ⟨fun k h1 h2 => hcX.block k (by omega) (by omega), KpO.of_chg (hi := w.heap.size) hc1 (fun b hb => (row_blk HXY.out.2.2.2 hb).2) (fun b hb => by omega) (by omega), m0.trans (hcX.belowLo6 m0.size (fun k hk => by omega)), m1.trans hcX (fun b h _ => .inl h), hcX.obj m2 (by omega), a2, c - 1, by omega, ?_, ?_, ?_⟩
      · rw [← hX, hNl]; exact heap_set_cells (i := 0) _ m4
      · have := m5.dropK c 1 1 (by simp; omega)
        rw [ha2, List.drop_drop] at this
        simpa using this
      · rw [← ha2]; exact subAtK_block m6
    case done2 =>
      rintro xs W hSx g1 hD
      rw [show xs = O from hSx] at g1
      clear hSx
      obtain ⟨m0, m1, m2, a, c, -, m4, -, -⟩ := g1
      have hz5 := HZ5.out
      have hz := HZ.out
      have hy0 := HY0.out
      have hDX := m1.obj HD5.out (by omega)
      have c9 := cell_of_heap m4 (i := 0) (v := .slice a (O.length - O.length) c) (by rfl)
      rw [Nat.sub_self] at c9
      have c3 := cell_of_heap m2 (i := 0) (v := .bool false) (by rfl)
      have f3 := frozen_of_heap (i := 0) m2
      have dn : decide (0 ≤ n) = true := by simpa using hn
      have HM := Lib.hid (And.intro m0 (And.intro m1 (And.intro m2 (And.intro hDX hD))))
      clear m0 m1 m2 m4 hDX hD hz5 hz hy0
      gi_wp2
      go_wp2
      obtain ⟨Z, hZ, hcZ⟩ : ∃ Z, W.setCell ⟨w.heap.size, 0, none⟩ (.bool true) = Z ∧ Chg (· = w.heap.size) W Z := ⟨_, rfl, Chg.set _ rfl⟩
      rw [hZ]
      obtain ⟨m0, m1, m2, hDX, hD⟩ := HM.out
      have hz5 := HZ5.out
      have hz := HZ.out
      have hxZ := heap_set_cells (i := 0) (.bool true) m2
      rw [hZ] at hxZ
      have hD1 := hcZ.obj hD (by omega)
      have hg1 := chg_putObj6 Z W5.heap.size (.deferred none)
      have hD2 := hg1.obj (hcZ.obj hDX (by omega)) (by omega)
      have hg2 := chg_putObj6 (Z.putObj W5.heap.size (.deferred none)) w4.heap.size (.deferred none)
      refine ⟨by simp, .inl ⟨_, _, rfl, run_takeDeferred hD1, ?_⟩⟩
      refine ⟨by simp, .inl ⟨_, _, rfl, run_takeDeferred hD2, ?_⟩⟩
      have y1 := cell_of_heap (hg2.obj (hg1.obj hxZ (by omega)) (by omega)) (i := 0) (v := .bool true) (by rfl)
      have hs := hcZ.size
      have hs1 := hg1.size
      have hb0 := m0.size
      have hcA := ((m0.trans (hcZ.belowLo6 (by omega) (fun k hk => by omega))).trans (hg1.belowLo6 (by omega) (fun k hk => by omega))).trans (hg2.belowLo6 (by omega) (fun k hk => by omega))
      exact ⟨.bool true, by simp [results, Try.results15, go_sem, y1], rfl, hcA⟩
    case stop2 => rintro c pre W _ g0; exact g0.elim
  case stop => rintro c pre W _ g0; exact g0.elim

/- A region that draws its order and whose operations only read or make memory, in a round of a loop over an iterator: one walk in the order of the text serves every order. Over the library's walk outside of rounds. -/
open Go Go.Sort Go.RowKit

section
variable {F : Fence} {n : Nat} {P : Program} {ops : Array Oper} {C : World → Prop} {md : Region.Mode}

theorem wpIn_of_quietR {o : Oper} {a : Act} {K : Act → Prop} {K' : Act → World → Prop} {Q' : Exit → Act → World → Prop} {w : World} (hs : Oper.semAt F.round a.eval o = execOp a.eval o) (hw : C w) (h : ∀ a w', C w' → K a → K' a w')
    (ha : o.askedIn F P a C) (hh : o.quietIn F n P a C K) : o.wpIn F n P a w K' Q' := by
  obtain ⟨v, h1, h2⟩ := hh
  have h3 := h1 w hw
  unfold Oper.quietAtIn at h3
  unfold Oper.wpIn
  refine ⟨ha w hw, ?_⟩
  rw [hs]
  generalize (execOp a.eval o).run P w = r at *
  cases r with
  | ok x w' =>
    cases x <;> simp only [Oper.quietUponIn] at h3 <;> simp only [Oper.uponIn]
    case value u => obtain ⟨e1, e2⟩ := h3; rw [e1, e2]; exact h _ _ hw h2
    case skip => obtain ⟨e1, e2⟩ := h3; rw [e1, ← e2]; exact h _ _ hw h2
    case enter f args => obtain ⟨e1, hd, hc⟩ := h3; rw [e1]; exact ⟨hd, hc.mono fun e w'' ⟨he, hw''⟩ => by subst he; exact h _ _ hw'' h2⟩
  | halt x w' => simp only [Oper.quietUponIn] at h3

theorem wpOpIn_of_qOpInR {l : Nat} (hro : F.round = some l) (hnd : ∀ (i : Nat) (o : Oper), ops[i]? = some o → ∀ c, o.op ≠ .defer c) {i : Nat} {a : Act} {K : Act → Prop} {K' : Act → World → Prop} {Q' : Exit → Act → World → Prop} {w : World} (hC : C w) (h : ∀ a w', C w' → K a → K' a w')
    (hh : qOpIn F n P ops C i K a) : wpOpIn F n P ops Q' i K' a w := by
  unfold qOpIn at hh
  unfold wpOpIn
  split
  · rename_i ho; simp only [ho] at hh; exact h _ _ hC hh
  · rename_i o ho
    simp only [ho] at hh
    obtain ⟨ha, hh⟩ := hh
    split
    · rename_i hw; simp only [hw, if_true] at hh
      exact wpIn_of_quietR (by rw [hro]; exact Oper.semAt_some l _ _ (hnd i o ho)) hC h ha hh
    · rename_i hw; simp only [hw] at hh; exact ⟨ha w hC, h _ _ hC hh⟩

theorem wpAnyIn_of_quietR {l : Nat} (hro : F.round = some l) (hnd : ∀ (i : Nat) (o : Oper), ops[i]? = some o → ∀ c, o.op ≠ .defer c) {Q : Act → Prop} {Q' : Exit → Act → World → Prop} (hQ : ∀ a w, C w → Q a → Q' .normal a w) : ∀ (fuel : Nat) (listed : Array Bool) (a : Act) (w : World), C w →
    wpAnyQIn F n P md ops C Q fuel listed a → wpAnyIn F n P md ops Q' fuel listed a w
  | 0, _, _, _, hw, h => ⟨h.1, hQ _ _ hw h.2⟩
  | fuel + 1, _, _, _, hw, h => ⟨fun h0 => hQ _ _ hw (h.1 h0), fun i hi => wpOpIn_of_qOpInR hro hnd hw (fun a' w' hw' => wpAnyIn_of_quietR hro hnd hQ fuel _ a' w' hw') (h.2 i hi)⟩

/-- no operation of the list is a defer statement -/
def noDefer (l : List Oper) : Bool := l.all fun o => match o.op with | .defer _ => false | _ => true

theorem wpIn_region_quietR {l : Nat} (hro : F.round = some l) {id : Nat} {Q : Exit → Act → World → Prop} {a : Act} {w : World} (hm : P.follows .mixedOrders = true) (hB : Region.lexB .any ops = true) (hnd : noDefer ops.toList = true) (hC : C { w with drawn := w.drawn + 1 })
    (h : wpQuietIn F n P ops C (fun a' => ∀ w', C w' → Q .normal a' w') ops.toList a) : (Code.region id ops true).wpIn F n P Q a w := by
  simp only [Region.lexB, Bool.and_eq_true] at hB
  have hnd' : ∀ (i : Nat) (o : Oper), ops[i]? = some o → ∀ c, o.op ≠ .defer c := by
    intro i o ho c hc
    have hmem : o ∈ ops.toList := by rw [← Array.getElem?_toList] at ho; exact List.mem_of_getElem? ho
    have := List.all_eq_true.1 hnd o hmem
    rw [hc] at this; cases this
  refine wpIn_region_any hm (wpAnyIn_of_quietR hro hnd' (Q := fun a' => ∀ w', C w' → Q .normal a' w') (fun _ w' hw' h => h w' hw') _ _ _ _ hC ?_)
  have := wpAnyQIn_lex (F := F) (n := n) (C := C) (md := .any) hB.1 ops.toList 0 (Array.replicate ops.size false) a (by simp) (by simpa using hB.2) h
  simpa using this

theorem wpIn_region_quiet_belowR {l : Nat} (hro : F.round = some l) {id : Nat} {Q : Exit → Act → World → Prop} {a : Act} {w : World} {os : List Oper} (hm : P.follows .mixedOrders = true) (hB : Region.lexB .any os.toArray = true) (hnd : noDefer os = true)
    (h : wpQuietIn F n P os.toArray (fun w' => ∃ p : Regrown, w' = grow (redrawn w p.d) p.os) (fun a' => ∀ w', Below w.heap.size w w' → Q .normal a' w') os a) : (Code.region id os.toArray true).wpIn F n P Q a w := by
  refine wpIn_region_quietR hro (C := fun w' => ∃ p : Regrown, w' = grow (redrawn w p.d) p.os) hm hB (by simpa using hnd) ⟨⟨w.drawn + 1, #[]⟩, by rw [grow_empty]; rfl⟩ ?_
  have key : ∀ (l : List Oper) (a : Act), wpQuietIn F n P os.toArray (fun w' => ∃ p : Regrown, w' = grow (redrawn w p.d) p.os) (fun a' => ∀ w', Below w.heap.size w w' → Q .normal a' w') l a →
      wpQuietIn F n P os.toArray (fun w' => ∃ p : Regrown, w' = grow (redrawn w p.d) p.os) (fun a' => ∀ w', (∃ p : Regrown, w' = grow (redrawn w p.d) p.os) → Q .normal a' w') l a := by
    intro l
    induction l with
    | nil => intro a h w' ⟨p, hp⟩; exact h w' (hp ▸ below_regrown w p.d p.os)
    | cons o rest ih =>
      intro a h
      unfold wpQuietIn at h ⊢
      refine ⟨h.1, ?_⟩
      have h2 := h.2
      split at h2
      · rename_i hw; simp only [hw, if_true]; exact Oper.quietIn_mono (fun a => ih a) h2
      · rename_i hw; simp only [hw]; exact ih _ h2
  simpa using key os a h
theorem asked_wide {o : Oper} {a : Act} {l : Nat} : o.askedIn (Fence.wide.inRound l) P a C := fun _ _ _ _ => trivial
theorem wp_region_quiet_belowP {id : Nat} {Q : Exit → Act → World → Prop} {a : Act} {w : World} {os : List Oper} (hm : P.follows .mixedOrders = true) (hB : Region.lexB .any os.toArray = true)
    (h : wpQuiet P os.toArray (fun w' => ∃ p : Regrown, w' = grow (redrawn w p.d) p.os) (fun a' => ∀ w', Below w.heap.size w w' → Q .normal a' w') os a) : (Code.region id os.toArray true).wp P Q a w := by
  refine wp_region_quiet_below hm hB ?_
  have key : ∀ (l : List Oper) (a : Act), wpQuiet P os.toArray (fun w' => ∃ p : Regrown, w' = grow (redrawn w p.d) p.os) (fun a' => ∀ w', Below w.heap.size w w' → Q .normal a' w') l a →
      wpQuiet P os.toArray (fun w' => ∃ p : Regrown, w' = grow (redrawn w p.d) p.os) (fun a' => ∀ w', (∃ p : Regrown, w' = grow (redrawn w p.d) p.os) → Q .normal a' w') l a := by
    intro l
    induction l with
    | nil => intro a h w' ⟨p, hp⟩; exact h w' (hp ▸ below_regrown w p.d p.os)
    | cons o rest ih =>
      intro a h
      unfold wpQuiet at h ⊢
      split at h
      · rename_i hw; simp only [hw, if_true]; exact Oper.quiet_mono (fun a => ih a) h
      · rename_i hw; simp only [hw]; exact ih _ h
  exact key os a h
end

end Go.Proofs.Ytljobojdcnhecaa
