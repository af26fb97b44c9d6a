/- Texts of this claim, one behind the other: Fv2, FaB. -/
import Derived.Test.YtlmdpcaikhdenaaGreatSl28
import Derived.Test.YtlmdpcaikhdenaaGreatSl01
set_option linter.unusedSimpArgs false
set_option linter.unusedVariables false
/- Segment: Repair, over any device whose Cut is known. (printed by gen/rep17.py; NOT BUILT YET: written ahead of its seat) -/
namespace Go.Proofs.YtlmdpcaikhdenaaGreat
open Go.RowKit Go.Maps

section
variable {At At' : (Nat → Prop) → (Nat → Prop) → World → Prop} {F G : Nat → Prop} {w : World} {dt : TypeId} {dp : Nat} {f g z y : Int} {a : Option Addr} {c : Nat} {L : List (List UInt8)}
set_option maxRecDepth 100000 in
set_option maxHeartbeats 8000000 in
theorem repair_whole (hL : Lies At) (ha : At F G w) (h1 : 0 ≤ f) (h2 : f ≤ 4611686018427387904) (h3 : 0 ≤ g) (h4 : z ≤ g) (hl : L.length ≤ 1000000000) (hLb : ∀ e ∈ L, e.length ≤ 140737488355328) (hA : EntsAt w a L) : Calls Tryz.prog 24 #[.iface dt (.pointer (some ⟨dp, 0, none⟩)), .agg #[.int .i64 f, .slice a L.length c, .int .i64 g, .int .i64 z, .int .i64 y]] w (SegPost F G At w (⟨f, L, g, z, y⟩, 0)) := by
  obtain ⟨w1, hw1⟩ : ∃ w1, ((w.alloc (.cells #[.iface dt (.pointer (some ⟨dp, 0, none⟩))] 101)).alloc (.cells #[.int .i64 f, .slice a L.length c, .int .i64 g, .int .i64 z, .int .i64 y] 42)).alloc (.cells #[.int .i64 0, .slice none 0 0, .int .i64 0, .int .i64 0, .int .i64 0] 42) = w1 := ⟨_, rfl⟩
  have hb1 : Below w.heap.size w w1 := by rw [← hw1]; exact ((below_alloc w _).alloc (by simp) _).alloc (by simp; omega) _
  have hz1 : w1.heap.size = w.heap.size + 3 := by rw [← hw1]; simp
  have hx : w1.heap[w.heap.size]? = some (.cells #[.iface dt (.pointer (some ⟨dp, 0, none⟩))] 101 (0, 0)) ∧ w1.heap[w.heap.size + 1]? = some (.cells #[.int .i64 f, .slice a L.length c, .int .i64 g, .int .i64 z, .int .i64 y] 42 (0, 0)) ∧ w1.heap[w.heap.size + 2]? = some (.cells #[.int .i64 0, .slice none 0 0, .int .i64 0, .int .i64 0, .int .i64 0] 42 (0, 0)) := by rw [← hw1]; exact alloc_at3 w _ _ _
  obtain ⟨hx0, hx1, hx2⟩ := hx
  have c0 := cell_of_heap hx0 (i := 0) (v := .iface dt (.pointer (some ⟨dp, 0, none⟩))) (by rfl)
  have p0 := cell_of_heap hx1 (i := 0) (v := .int .i64 f) (by rfl)
  have p1 := cell_of_heap hx1 (i := 1) (v := .slice a L.length c) (by rfl)
  have p2 := cell_of_heap hx1 (i := 2) (v := .int .i64 g) (by rfl)
  have p3 := cell_of_heap hx1 (i := 3) (v := .int .i64 z) (by rfl)
  have p4 := cell_of_heap hx1 (i := 4) (v := .int .i64 y) (by rfl)
  have d1 : decide (f < 0) = false := by simpa using h1
  have d2 : decide (4611686018427387904 < f) = false := by simpa using h2
  have d3 : decide (g < 0) = false := by simpa using h3
  have d4 : decide (z ≤ g) = true := by simpa using h4
  have hC := copied_any (w := w1) (c := c) (f := f) (g := g) (z := z) (y := y) (hA.below hb1) hl hLb
  have HW := Lib.hid hw1
  have HX := Lib.hid (And.intro hx0 (And.intro hx1 hx2))
  have HB := Lib.hid hb1
  have HZ := Lib.hid hz1
  clear hw1 hx0 hx1 hx2 hb1 hA hLb hz1 h1 h2 h3 h4
  go_enter Tryz.func24, Tryz.ntmps24
  go_wp2_with (first
    | rw [HW.out]
    | rw [HW4.out]
    | (go_at_call 46; refine hC.mono ?_; rintro _ w3 ⟨es, rfl, hE, hb3⟩; obtain ⟨xa, xc, rfl⟩ := hE.slice; have hx13 := (hb3.block _ (heap_lt HX.out.2.1)).trans HX.out.2.1; have q0 := cell_of_heap hx13 (i := 0) (v := .int .i64 f) (by rfl); have q1 := cell_of_heap hx13 (i := 1) (v := .slice a L.length c) (by rfl); have q2 := cell_of_heap hx13 (i := 2) (v := .int .i64 g) (by rfl); have q3 := cell_of_heap hx13 (i := 3) (v := .int .i64 z) (by rfl); have q4 := cell_of_heap hx13 (i := 4) (v := .int .i64 y) (by rfl); have z0 := frozen_of_heap (i := 0) hx13; have z1 := frozen_of_heap (i := 1) hx13; have z2 := frozen_of_heap (i := 2) hx13; have z3 := frozen_of_heap (i := 3) hx13; have z4 := frozen_of_heap (i := 4) hx13; obtain ⟨w4, hw4, hx14, hc4⟩ := set5 (x := .int .i64 f) (y := .slice xa L.length xc) (z := .int .i64 g) (u := .int .i64 z) (v := .int .i64 y) hx13; have HW4 := Lib.hid hw4; clear hw4; have hx24 := hc4.obj ((hb3.block _ (heap_lt HX.out.2.2)).trans HX.out.2.2) (by omega); have s0 := cell_of_heap hx14 (i := 0) (v := .int .i64 f) (by rfl); have s1 := cell_of_heap hx14 (i := 1) (v := .slice xa L.length xc) (by rfl); have s2 := cell_of_heap hx14 (i := 2) (v := .int .i64 g) (by rfl); have s3 := cell_of_heap hx14 (i := 3) (v := .int .i64 z) (by rfl); have s4 := cell_of_heap hx14 (i := 4) (v := .int .i64 y) (by rfl); have r0 := cell_of_heap hx24 (i := 0) (v := .int .i64 0) (by rfl); have r1 := cell_of_heap hx24 (i := 1) (v := .slice none 0 0) (by rfl); have r2 := cell_of_heap hx24 (i := 2) (v := .int .i64 0) (by rfl); have r3 := cell_of_heap hx24 (i := 3) (v := .int .i64 0) (by rfl); have r4 := cell_of_heap hx24 (i := 4) (v := .int .i64 0) (by rfl); have z0 := frozen_of_heap (i := 0) hx24; have z1 := frozen_of_heap (i := 1) hx24; have z2 := frozen_of_heap (i := 2) hx24; have z3 := frozen_of_heap (i := 3) hx24; have z4 := frozen_of_heap (i := 4) hx24))
  obtain ⟨Y, hY, hyx, hcY⟩ := set5 (x := .int .i64 f) (y := .slice xa L.length xc) (z := .int .i64 g) (u := .int .i64 z) (v := .int .i64 y) hx24
  rw [hY]
  have y0 := cell_of_heap hyx (i := 0) (v := .int .i64 f) (by rfl)
  have y1 := cell_of_heap hyx (i := 1) (v := .slice xa L.length xc) (by rfl)
  have y2 := cell_of_heap hyx (i := 2) (v := .int .i64 g) (by rfl)
  have y3 := cell_of_heap hyx (i := 3) (v := .int .i64 z) (by rfl)
  have y4 := cell_of_heap hyx (i := 4) (v := .int .i64 y) (by rfl)
  refine bodyPost_ret (v := .tuple #[.agg #[.int .i64 f, .slice xa L.length xc, .int .i64 g, .int .i64 z, .int .i64 y], .int .i64 0]) (by simp [results, Tryz.results24, go_sem, y0, y1, y2, y3, y4]) rfl ?_
  have hz1 := HZ.out
  have hs3 := hb3.size
  have hbb : Below w.heap.size w Y := Chg.ret (Chg.ret (HB.out.trans (hb3.mono HB.out.size)) (by omega) hc4) (by omega) hcY
  exact SegPost.of_scan (r := (⟨f, L, g, z, y⟩, 0)) hL ha rfl (((hE.kept (R' := fun b => w1.heap.size ≤ b) hc4 (fun x hx e => by omega) (fun _ h => h)).kept hcY (fun x hx e => by omega) (fun x hx => by omega))) hbb
set_option maxRecDepth 100000 in
set_option maxHeartbeats 16000000 in
theorem repair_cut (hL : Lies At) (hL' : Lies At') (ha : At F G w) (h1 : 0 ≤ f) (h2 : f ≤ 4611686018427387904) (h3 : 0 ≤ g) (h4 : g < z) (hl : L.length ≤ 1000000000) (hLb : ∀ e ∈ L, e.length ≤ 140737488355328) (hA : EntsAt w a L) {er : Int}
    (hA1 : ∀ (W : World) (b3 b4 : Nat) (e3 : TypeId) (es : Value), At F G W → W.heap[b3]? = some (.cells #[.iface dt (.pointer (some ⟨dp, 0, none⟩))] e3 (0, 0)) → W.heap[b4]? = some (.cells #[.int .i64 f, es, .int .i64 g, .int .i64 z, .int .i64 y] 42 (0, 0)) →
      Calls Tryz.prog 54 #[.string ⟨(segName f).toArray⟩, .pointer (some ⟨b3, 0, none⟩), .pointer (some ⟨b4, 0, none⟩)] W fun e w' => e = .returned (.int .i64 er) ∧ ∃ F' G', At' F' G' w' ∧ Moved F G F' G' W w') :
    Calls Tryz.prog 24 #[.iface dt (.pointer (some ⟨dp, 0, none⟩)), .agg #[.int .i64 f, .slice a L.length c, .int .i64 g, .int .i64 z, .int .i64 y]] w (SegPost F G At' w (if er = 0 then ⟨f, L, g, g, 0⟩ else SegV.none, er)) := by
  obtain ⟨w1, hw1⟩ : ∃ w1, ((w.alloc (.cells #[.iface dt (.pointer (some ⟨dp, 0, none⟩))] 101)).alloc (.cells #[.int .i64 f, .slice a L.length c, .int .i64 g, .int .i64 z, .int .i64 y] 42)).alloc (.cells #[.int .i64 0, .slice none 0 0, .int .i64 0, .int .i64 0, .int .i64 0] 42) = w1 := ⟨_, rfl⟩
  have hb1 : Below w.heap.size w w1 := by rw [← hw1]; exact ((below_alloc w _).alloc (by simp) _).alloc (by simp; omega) _
  have hz1 : w1.heap.size = w.heap.size + 3 := by rw [← hw1]; simp
  have hx : w1.heap[w.heap.size]? = some (.cells #[.iface dt (.pointer (some ⟨dp, 0, none⟩))] 101 (0, 0)) ∧ w1.heap[w.heap.size + 1]? = some (.cells #[.int .i64 f, .slice a L.length c, .int .i64 g, .int .i64 z, .int .i64 y] 42 (0, 0)) ∧ w1.heap[w.heap.size + 2]? = some (.cells #[.int .i64 0, .slice none 0 0, .int .i64 0, .int .i64 0, .int .i64 0] 42 (0, 0)) := by rw [← hw1]; exact alloc_at3 w _ _ _
  obtain ⟨hx0, hx1, hx2⟩ := hx
  have c0 := cell_of_heap hx0 (i := 0) (v := .iface dt (.pointer (some ⟨dp, 0, none⟩))) (by rfl)
  have p0 := cell_of_heap hx1 (i := 0) (v := .int .i64 f) (by rfl)
  have p1 := cell_of_heap hx1 (i := 1) (v := .slice a L.length c) (by rfl)
  have p2 := cell_of_heap hx1 (i := 2) (v := .int .i64 g) (by rfl)
  have p3 := cell_of_heap hx1 (i := 3) (v := .int .i64 z) (by rfl)
  have p4 := cell_of_heap hx1 (i := 4) (v := .int .i64 y) (by rfl)
  have d1 : decide (f < 0) = false := by simpa using h1
  have d2 : decide (4611686018427387904 < f) = false := by simpa using h2
  have d3 : decide (g < 0) = false := by simpa using h3
  have d4 : decide (z ≤ g) = false := by simp; omega
  have hC := copied_any (w := w1) (c := c) (f := f) (g := g) (z := z) (y := y) (hA.below hb1) hl hLb
  have hent : ∀ args w, (callFunc 54 args).run Tryz.prog w = .ok (.enter 54 args) w := enters_of Tryz.func54 (by kernel_rfl) rfl
  have HST : Hid (∀ (W : World) (es : Value), Below w.heap.size w W → W.heap[w.heap.size]? = some (.cells #[.iface dt (.pointer (some ⟨dp, 0, none⟩))] 101 (0, 0)) → W.heap[w.heap.size + 1]? = some (.cells #[.int .i64 f, es, .int .i64 g, .int .i64 z, .int .i64 y] 42 (0, 0)) →
      Calls Tryz.prog 45 #[.iface dt (.pointer (some ⟨dp, 0, none⟩)), .int .i64 f, .func (.func 54) #[] #[.pointer (some ⟨w.heap.size, 0, none⟩), .pointer (some ⟨w.heap.size + 1, 0, none⟩)]] W fun e w' => e = .returned (.int .i64 er) ∧ ∃ F' G', At' F' G' w' ∧ Moved F G F' G' W w') := Lib.hid (by
    intro W es hW k3 k4
    refine (step_fn h1 h2 (N := 54) hent _ (Q := fun W' e w' => e = .returned (.int .i64 er) ∧ ∃ F' G', At' F' G' w' ∧ Moved F G F' G' W' w') (fun W' e w' hq => ⟨_, hq.1⟩) (fun W' hW' => ?_)).mono ?_
    · exact hA1 W' _ _ _ es (hL.below (hL.below ha hW) hW') ((hW'.block _ (heap_lt k3)).trans k3) ((hW'.block _ (heap_lt k4)).trans k4)
    · rintro e w' ⟨W', hW', k1, F', G', k2, k5⟩
      exact ⟨k1, F', G', k2, k5.after hW'⟩)
  have HW := Lib.hid hw1
  have HX := Lib.hid (And.intro hx0 (And.intro hx1 hx2))
  have HB := Lib.hid hb1
  have HZ := Lib.hid hz1
  have HAt := Lib.hid (And.intro hL (And.intro hL' ha))
  clear hw1 hx0 hx1 hx2 hb1 hA hLb hz1 h1 h2 h3 h4 hL hL' ha hA1 hent
  by_cases he : er = 0
  case neg =>
    rw [if_neg he]
    have e1 : (er != 0) = true := by simpa using he
    have e2 : (er == 0) = false := by simpa using he
    go_enter Tryz.func24, Tryz.ntmps24
    go_wp2_with (first
      | rw [HW.out]
      | rw [HW4.out]
      | (go_at_call 46; refine hC.mono ?_; rintro _ w3 ⟨es, rfl, hE, hb3⟩; obtain ⟨xa, xc, rfl⟩ := hE.slice; have hx13 := (hb3.block _ (heap_lt HX.out.2.1)).trans HX.out.2.1; have q0 := cell_of_heap hx13 (i := 0) (v := .int .i64 f) (by rfl); have q1 := cell_of_heap hx13 (i := 1) (v := .slice a L.length c) (by rfl); have q2 := cell_of_heap hx13 (i := 2) (v := .int .i64 g) (by rfl); have q3 := cell_of_heap hx13 (i := 3) (v := .int .i64 z) (by rfl); have q4 := cell_of_heap hx13 (i := 4) (v := .int .i64 y) (by rfl); have z0 := frozen_of_heap (i := 0) hx13; have z1 := frozen_of_heap (i := 1) hx13; have z2 := frozen_of_heap (i := 2) hx13; have z3 := frozen_of_heap (i := 3) hx13; have z4 := frozen_of_heap (i := 4) hx13; obtain ⟨w4, hw4, hx14, hc4⟩ := set5 (x := .int .i64 f) (y := .slice xa L.length xc) (z := .int .i64 g) (u := .int .i64 z) (v := .int .i64 y) hx13; have HW4 := Lib.hid hw4; clear hw4; have hx24 := hc4.obj ((hb3.block _ (heap_lt HX.out.2.2)).trans HX.out.2.2) (by omega); have s0 := cell_of_heap hx14 (i := 0) (v := .int .i64 f) (by rfl); have s1 := cell_of_heap hx14 (i := 1) (v := .slice xa L.length xc) (by rfl); have s2 := cell_of_heap hx14 (i := 2) (v := .int .i64 g) (by rfl); have s3 := cell_of_heap hx14 (i := 3) (v := .int .i64 z) (by rfl); have s4 := cell_of_heap hx14 (i := 4) (v := .int .i64 y) (by rfl); have hx04 := hc4.obj ((hb3.block _ (heap_lt HX.out.1)).trans HX.out.1) (by omega); have hbw4 : Below w.heap.size w w4 := Chg.ret (HB.out.trans (hb3.mono HB.out.size)) (by omega) hc4; have c4 := cell_of_heap hx04 (i := 0) (v := .iface dt (.pointer (some ⟨dp, 0, none⟩))) (by rfl); have hSt := HST.out w4 (.slice xa L.length xc) hbw4 hx04 hx14)
      | (go_at_call 45; refine hSt.mono ?_; rintro _ w7 ⟨rfl, F', G', hAt7, hMv⟩; have hlF := HAt.out.1.lt HAt.out.2.2; have hs1 := HB.out.size; have hFo : ∀ b, w.heap.size ≤ b → ¬ F b := (fun b hb hf => by have := hlF.1 b hf; omega); have hx27 := hMv.1.obj hx24 (hFo _ (by omega)); have hx17 := hMv.1.obj hx14 (hFo _ (by omega)); have r0 := cell_of_heap hx27 (i := 0) (v := .int .i64 0) (by rfl); have r1 := cell_of_heap hx27 (i := 1) (v := .slice none 0 0) (by rfl); have r2 := cell_of_heap hx27 (i := 2) (v := .int .i64 0) (by rfl); have r3 := cell_of_heap hx27 (i := 3) (v := .int .i64 0) (by rfl); have r4 := cell_of_heap hx27 (i := 4) (v := .int .i64 0) (by rfl); have z0 := frozen_of_heap (i := 0) hx27; have z1 := frozen_of_heap (i := 1) hx27; have z2 := frozen_of_heap (i := 2) hx27; have z3 := frozen_of_heap (i := 3) hx27; have z4 := frozen_of_heap (i := 4) hx27))
    obtain ⟨Y, hY, hyx, hcY⟩ := set5 (x := .int .i64 0) (y := .slice none 0 0) (z := .int .i64 0) (u := .int .i64 0) (v := .int .i64 0) hx27
    rw [hY]
    have y0 := cell_of_heap hyx (i := 0) (v := .int .i64 0) (by rfl)
    have y1 := cell_of_heap hyx (i := 1) (v := .slice none 0 0) (by rfl)
    have y2 := cell_of_heap hyx (i := 2) (v := .int .i64 0) (by rfl)
    have y3 := cell_of_heap hyx (i := 3) (v := .int .i64 0) (by rfl)
    have y4 := cell_of_heap hyx (i := 4) (v := .int .i64 0) (by rfl)
    refine bodyPost_ret (v := .tuple #[.agg #[.int .i64 0, .slice none 0 0, .int .i64 0, .int .i64 0, .int .i64 0], .int .i64 er]) (by simp [results, Tryz.results24, go_sem, y0, y1, y2, y3, y4]) rfl ?_
    obtain ⟨hL, hL', ha⟩ := HAt.out
    have hz1 := HZ.out
    have hs3 := hb3.size
    have hs4 := hc4.size
    have hs7 := hMv.1.size
    have hFn : ∀ b, w.heap.size ≤ b → b < w4.heap.size → ¬ F' b ∧ ¬ G' b := fun b h1 h2 => ⟨fun h => by rcases (hMv.2.1 b h).1 with h | h; exact hFo b h1 h; omega, fun h => by
      rcases (hMv.2.2 b h).1 with h | h
      · have := hlF.2.1 b h; omega
      · omega⟩
    have hMw : Moved F G F' G' w w7 := hMv.after hbw4
    have hnf := hFn (w.heap.size + 2) (by omega) (by omega)
    have hE7 : EntIn (fun x => w.heap.size + 2 < x ∧ ¬ F' x ∧ ¬ G' x) w7 (.slice xa L.length xc) L := by
      have h1 := hE.lt.kept (R' := fun b => w1.heap.size ≤ b ∧ b < w3.heap.size) hc4 (fun b hb e => by have : b = w.heap.size + 1 := e; omega) (fun b hb => hb)
      exact h1.kept hMv.1 (fun b hb => hFo b (by omega)) (fun b hb => ⟨by omega, hFn b (by omega) (by omega)⟩)
    exact ⟨_, F', G', rfl, EntIn.nil _ _, hL'.kept hAt7 hcY (fun x h e => hnf.1 (by have : x = w.heap.size + 2 := e; rw [← this]; exact h)) (fun x h e => hnf.2 (by have : x = w.heap.size + 2 := e; rw [← this]; exact h)), hMw.andThen (hcY.mono (fun x h _ => by have : x = w.heap.size + 2 := h; omega))⟩
  case pos =>
    rw [if_pos he]
    have e1 : (er != 0) = false := by simpa using he
    have e2 : (er == 0) = true := by simpa using he
    subst he
    go_enter Tryz.func24, Tryz.ntmps24
    go_wp2_with (first
      | rw [HW.out]
      | rw [HW4.out]
      | rw [HW8.out]
      | (go_at_call 46; refine hC.mono ?_; rintro _ w3 ⟨es, rfl, hE, hb3⟩; obtain ⟨xa, xc, rfl⟩ := hE.slice; have hx13 := (hb3.block _ (heap_lt HX.out.2.1)).trans HX.out.2.1; have q0 := cell_of_heap hx13 (i := 0) (v := .int .i64 f) (by rfl); have q1 := cell_of_heap hx13 (i := 1) (v := .slice a L.length c) (by rfl); have q2 := cell_of_heap hx13 (i := 2) (v := .int .i64 g) (by rfl); have q3 := cell_of_heap hx13 (i := 3) (v := .int .i64 z) (by rfl); have q4 := cell_of_heap hx13 (i := 4) (v := .int .i64 y) (by rfl); have z0 := frozen_of_heap (i := 0) hx13; have z1 := frozen_of_heap (i := 1) hx13; have z2 := frozen_of_heap (i := 2) hx13; have z3 := frozen_of_heap (i := 3) hx13; have z4 := frozen_of_heap (i := 4) hx13; obtain ⟨w4, hw4, hx14, hc4⟩ := set5 (x := .int .i64 f) (y := .slice xa L.length xc) (z := .int .i64 g) (u := .int .i64 z) (v := .int .i64 y) hx13; have HW4 := Lib.hid hw4; clear hw4; have hx24 := hc4.obj ((hb3.block _ (heap_lt HX.out.2.2)).trans HX.out.2.2) (by omega); have s0 := cell_of_heap hx14 (i := 0) (v := .int .i64 f) (by rfl); have s1 := cell_of_heap hx14 (i := 1) (v := .slice xa L.length xc) (by rfl); have s2 := cell_of_heap hx14 (i := 2) (v := .int .i64 g) (by rfl); have s3 := cell_of_heap hx14 (i := 3) (v := .int .i64 z) (by rfl); have s4 := cell_of_heap hx14 (i := 4) (v := .int .i64 y) (by rfl); have hx04 := hc4.obj ((hb3.block _ (heap_lt HX.out.1)).trans HX.out.1) (by omega); have hbw4 : Below w.heap.size w w4 := Chg.ret (HB.out.trans (hb3.mono HB.out.size)) (by omega) hc4; have c4 := cell_of_heap hx04 (i := 0) (v := .iface dt (.pointer (some ⟨dp, 0, none⟩))) (by rfl); have hSt := HST.out w4 (.slice xa L.length xc) hbw4 hx04 hx14)
      | (go_at_call 45; refine hSt.mono ?_; rintro _ w7 ⟨rfl, F', G', hAt7, hMv⟩; have hlF := HAt.out.1.lt HAt.out.2.2; have hs1 := HB.out.size; have hFo : ∀ b, w.heap.size ≤ b → ¬ F b := (fun b hb hf => by have := hlF.1 b hf; omega); have hx27 := hMv.1.obj hx24 (hFo _ (by omega)); have hx17 := hMv.1.obj hx14 (hFo _ (by omega)); have r0 := cell_of_heap hx27 (i := 0) (v := .int .i64 0) (by rfl); have r1 := cell_of_heap hx27 (i := 1) (v := .slice none 0 0) (by rfl); have r2 := cell_of_heap hx27 (i := 2) (v := .int .i64 0) (by rfl); have r3 := cell_of_heap hx27 (i := 3) (v := .int .i64 0) (by rfl); have r4 := cell_of_heap hx27 (i := 4) (v := .int .i64 0) (by rfl); have z0 := frozen_of_heap (i := 0) hx27; have z1 := frozen_of_heap (i := 1) hx27; have z2 := frozen_of_heap (i := 2) hx27; have z3 := frozen_of_heap (i := 3) hx27; have z4 := frozen_of_heap (i := 4) hx27; have k0 := cell_of_heap hx17 (i := 0) (v := .int .i64 f) (by rfl); have k1 := cell_of_heap hx17 (i := 1) (v := .slice xa L.length xc) (by rfl); have k2 := cell_of_heap hx17 (i := 2) (v := .int .i64 g) (by rfl); have k3 := cell_of_heap hx17 (i := 3) (v := .int .i64 z) (by rfl); have k4 := cell_of_heap hx17 (i := 4) (v := .int .i64 y) (by rfl); have kz3 := frozen_of_heap (i := 3) hx17; have kz4 := frozen_of_heap (i := 4) hx17; obtain ⟨w8, hw8, hc8, hx18⟩ : ∃ w8, (w7.setCell ⟨w.heap.size + 1, 3, none⟩ (.int .i64 g)).setCell ⟨w.heap.size + 1, 4, none⟩ (.int .i64 0) = w8 ∧ Chg (· = w.heap.size + 1) w7 w8 ∧ w8.heap[w.heap.size + 1]? = some (.cells #[.int .i64 f, .slice xa L.length xc, .int .i64 g, .int .i64 g, .int .i64 0] 42 (0, 0)) := ⟨_, rfl, (Chg.set (O := (· = w.heap.size + 1)) (a := ⟨w.heap.size + 1, 3, none⟩) _ rfl).trans (Chg.set (O := (· = w.heap.size + 1)) (a := ⟨w.heap.size + 1, 4, none⟩) _ rfl) (fun _ h _ => h), heap_set_cells (i := 4) (.int .i64 0) (heap_set_cells (i := 3) (.int .i64 g) hx17)⟩; have HW8 := Lib.hid hw8; clear hw8; have hx28 := hc8.obj hx27 (by omega); have m0 := cell_of_heap hx18 (i := 0) (v := .int .i64 f) (by rfl); have m1 := cell_of_heap hx18 (i := 1) (v := .slice xa L.length xc) (by rfl); have m2 := cell_of_heap hx18 (i := 2) (v := .int .i64 g) (by rfl); have m3 := cell_of_heap hx18 (i := 3) (v := .int .i64 g) (by rfl); have m4 := cell_of_heap hx18 (i := 4) (v := .int .i64 0) (by rfl); have r0 := cell_of_heap hx28 (i := 0) (v := .int .i64 0) (by rfl); have r1 := cell_of_heap hx28 (i := 1) (v := .slice none 0 0) (by rfl); have r2 := cell_of_heap hx28 (i := 2) (v := .int .i64 0) (by rfl); have r3 := cell_of_heap hx28 (i := 3) (v := .int .i64 0) (by rfl); have r4 := cell_of_heap hx28 (i := 4) (v := .int .i64 0) (by rfl); have z0 := frozen_of_heap (i := 0) hx28; have z1 := frozen_of_heap (i := 1) hx28; have z2 := frozen_of_heap (i := 2) hx28; have z3 := frozen_of_heap (i := 3) hx28; have z4 := frozen_of_heap (i := 4) hx28))
    obtain ⟨Y, hY, hyx, hcY⟩ := set5 (x := .int .i64 f) (y := .slice xa L.length xc) (z := .int .i64 g) (u := .int .i64 g) (v := .int .i64 0) hx28
    rw [hY]
    have y0 := cell_of_heap hyx (i := 0) (v := .int .i64 f) (by rfl)
    have y1 := cell_of_heap hyx (i := 1) (v := .slice xa L.length xc) (by rfl)
    have y2 := cell_of_heap hyx (i := 2) (v := .int .i64 g) (by rfl)
    have y3 := cell_of_heap hyx (i := 3) (v := .int .i64 g) (by rfl)
    have y4 := cell_of_heap hyx (i := 4) (v := .int .i64 0) (by rfl)
    refine bodyPost_ret (v := .tuple #[.agg #[.int .i64 f, .slice xa L.length xc, .int .i64 g, .int .i64 g, .int .i64 0], .int .i64 0]) (by simp [results, Tryz.results24, go_sem, y0, y1, y2, y3, y4]) rfl ?_
    obtain ⟨hL, hL', ha⟩ := HAt.out
    have hz1 := HZ.out
    have hs3 := hb3.size
    have hs4 := hc4.size
    have hs7 := hMv.1.size
    have hFn : ∀ b, w.heap.size ≤ b → b < w4.heap.size → ¬ F' b ∧ ¬ G' b := fun b h1 h2 => ⟨fun h => by rcases (hMv.2.1 b h).1 with h | h; exact hFo b h1 h; omega, fun h => by
      rcases (hMv.2.2 b h).1 with h | h
      · have := hlF.2.1 b h; omega
      · omega⟩
    have hMw : Moved F G F' G' w w7 := hMv.after hbw4
    have hnf := hFn (w.heap.size + 2) (by omega) (by omega)
    have hE7 : EntIn (fun x => w.heap.size + 2 < x ∧ ¬ F' x ∧ ¬ G' x) w7 (.slice xa L.length xc) L := by
      have h1 := hE.lt.kept (R' := fun b => w1.heap.size ≤ b ∧ b < w3.heap.size) hc4 (fun b hb e => by have : b = w.heap.size + 1 := e; omega) (fun b hb => hb)
      exact h1.kept hMv.1 (fun b hb => hFo b (by omega)) (fun b hb => ⟨by omega, hFn b (by omega) (by omega)⟩)
    have hn1 := hFn (w.heap.size + 1) (by omega) (by omega)
    have hcT : Chg (fun x => x = w.heap.size + 1 ∨ x = w.heap.size + 2) w7 Y := (hc8.mono (fun x h _ => Or.inl h)).trans hcY (fun x h _ => .inr h)
    exact ⟨_, F', G', rfl, ((hE7.kept hc8 (fun b hb e => by have : b = w.heap.size + 1 := e; omega) (fun _ h => h)).kept hcY (fun b hb e => by have : b = w.heap.size + 2 := e; omega) (fun _ h => h)).mono (fun b hb => ⟨by omega, hb.2⟩), hL'.kept hAt7 hcT (fun x h e => by rcases e with e | e; (rw [e] at h; exact hn1.1 h); (rw [e] at h; exact hnf.1 h)) (fun x h e => by rcases e with e | e; (rw [e] at h; exact hn1.2 h); (rw [e] at h; exact hnf.2 h)), hMw.andThen (hcT.mono (fun x h _ => by omega))⟩
end

end Go.Proofs.YtlmdpcaikhdenaaGreat
/- slices.BinarySearch over a rising list of numbers. -/
namespace Go.Proofs.YtlmdpcaikhdenaaGreat
open Go.RowKit

/-- how many numbers of a rising list are below t -/
def low (zs : List Int) (t : Int) : Nat := (zs.takeWhile (· < t)).length
theorem low_le (zs : List Int) (t : Int) : low zs t ≤ zs.length := by
  unfold low
  exact (List.takeWhile_sublist _).length_le
theorem low_below {zs : List Int} {t : Int} {k : Nat} (hk : k < low zs t) (hl : k < zs.length) : zs[k] < t := by
  unfold low at hk
  induction zs generalizing k with
  | nil => simp at hk
  | cons x r ih =>
    by_cases hx : x < t
    · cases k with
      | zero => exact hx
      | succ k =>
        simp only [List.takeWhile_cons, hx, decide_true, if_true, List.length_cons] at hk
        exact ih (by omega) (by simpa using hl)
    · simp [List.takeWhile_cons, hx] at hk
theorem low_at {zs : List Int} {t : Int} (h : low zs t < zs.length) : ¬ zs[low zs t] < t := by
  induction zs with
  | nil => simp at h
  | cons x r ih =>
    by_cases hx : x < t
    · have e : low (x :: r) t = low r t + 1 := by simp [low, List.takeWhile_cons, hx]
      simp only [e] at h ⊢
      simp only [List.getElem_cons_succ]
      exact ih (by simpa using h)
    · have e : low (x :: r) t = 0 := by simp [low, List.takeWhile_cons, hx]
      simp only [e, List.getElem_cons_zero]
      exact hx
theorem low_above {zs : List Int} {t : Int} (hs : zs.Pairwise (· < ·)) {k : Nat} (hk : low zs t ≤ k) (hl : k < zs.length) : ¬ zs[k] < t := by
  have h1 := low_at (zs := zs) (t := t) (by omega)
  rcases Nat.lt_or_ge (low zs t) k with h2 | h2
  · have := List.pairwise_iff_getElem.1 hs (low zs t) k (by omega) hl h2
    omega
  · have e : low zs t = k := by omega
    simp only [e] at h1
    exact h1
theorem low_mem {zs : List Int} {t : Int} (hs : zs.Pairwise (· < ·)) : (t ∈ zs) ↔ ∃ h : low zs t < zs.length, zs[low zs t] = t := by
  constructor
  · intro hm
    obtain ⟨k, hk, e⟩ := List.getElem_of_mem hm
    have h1 : ¬ k < low zs t := fun h => by have := low_below h hk; omega
    have hl : low zs t < zs.length := by omega
    refine ⟨hl, ?_⟩
    have h2 := low_at hl
    rcases Nat.lt_or_ge (low zs t) k with h3 | h3
    · have := List.pairwise_iff_getElem.1 hs (low zs t) k hl hk h3
      omega
    · have e2 : low zs t = k := by omega
      simp only [e2]
      exact e
  · rintro ⟨h, e⟩
    rw [← e]
    exact List.getElem_mem _
theorem cNaN_any (a : Int) (w : World) : Calls Tryz.prog 177 #[.int .i64 a] w fun e w' => e = .returned (.bool false) ∧ w = w' := by
  have g : (a != a) = false := by simp
  go_enter Tryz.func177, Tryz.ntmps177
  go_wp2
  go_ret
  exact ⟨rfl, rfl⟩
theorem less64_any (a b : Int) (w : World) : Calls Tryz.prog 134 #[.int .i64 a, .int .i64 b] w fun e w' => e = .returned (.bool (decide (a < b))) ∧ w = w' := by
  go_enter Tryz.func134, Tryz.ntmps134
  go_wp2_with (go_at_call 177; refine (cNaN_any _ _).mono ?_; rintro _ w1 ⟨rfl, rfl⟩)
  go_ret
  exact ⟨rfl, rfl⟩
theorem sNaN_any (a : Int) (w : World) : Calls Tryz.prog 135 #[.int .i64 a] w fun e w' => e = .returned (.bool false) ∧ w = w' := by
  have g : (a != a) = false := by simp
  go_enter Tryz.func135, Tryz.ntmps135
  go_wp2
  go_ret
  exact ⟨rfl, rfl⟩
set_option maxRecDepth 100000 in
set_option maxHeartbeats 1000000 in
theorem search_any {zs : List Int} (hs : zs.Pairwise (· < ·)) (t : Int) {w : World} {a : Option Addr} {c : Nat} (hrow : RowAt w a (zs.map (Value.int .i64))) (hl : zs.length ≤ 4194304) :
    Calls Tryz.prog 91 #[.slice a zs.length c, .int .i64 t] w fun e w' => e = .returned (.tuple #[.int .i64 (low zs t : Int), .bool (decide (t ∈ zs))]) ∧ w = w' := by
  have hle := low_le zs t
  have HS := Lib.hid hs
  clear hs
  go_enter Tryz.func91, Tryz.ntmps91
  go_wp2
  go_loop [7, 8] (fun i j => ∃ x y : Nat, i = .int .i64 x ∧ j = .int .i64 y ∧ x ≤ low zs t ∧ low zs t ≤ y ∧ y ≤ zs.length) (fun i j => (intOf j - intOf i).toNat)
  case atStart => exact ⟨0, zs.length, rfl, rfl, Nat.zero_le _, hle, Nat.le_refl _⟩
  case round =>
    obtain ⟨x, y, rfl, rfl, hx, hy, hyl⟩ := hrel
    by_cases hlt : x < y
    · have hhl : (x + y) / 2 < zs.length := by omega
      have HHL := hhl
      obtain ⟨b, off, rfl, hc⟩ := hrow (by intro e; rw [List.map_eq_nil_iff] at e; subst e; simp at HHL)
      obtain ⟨z, hz⟩ : ∃ z, zs[(x + y) / 2] = z := ⟨_, rfl⟩
      have hcell : w.cell? ⟨b, off + (x + y) / 2, none⟩ = some (.int .i64 z) := hc _ _ (by rw [List.getElem?_map, List.getElem?_eq_getElem hhl, hz]; rfl)
      have j0 : (0 : Int) ≤ ((x : Int) + y) / 2 := by omega
      have j1 : ((x : Int) + y) / 2 < (zs.length : Int) := by omega
      have HC := Lib.hid hc
      have HZ := Lib.hid hz
      clear hc hz
      by_cases hzt : z < t
      · have g : decide (z < t) = true := by simpa using hzt
        have hup : (x + y) / 2 < low zs t := by
          rcases Nat.lt_or_ge ((x + y) / 2) (low zs t) with h | h
          · exact h
          · exact absurd (HZ.out ▸ hzt) (low_above HS.out h hhl)
        go_wp2_with (go_at_call 134; refine (less64_any _ _ _).mono ?_; rintro _ w1 ⟨rfl, rfl⟩)
        go_round
        case rel => exact ⟨(x + y) / 2 + 1, y, by go_num, rfl, by omega, hy, hyl⟩
        case measure => simp [intOf]; omega
      · have g : decide (z < t) = false := by simpa using hzt
        have hup : low zs t ≤ (x + y) / 2 := by
          rcases Nat.lt_or_ge ((x + y) / 2) (low zs t) with h | h
          · exact absurd (HZ.out ▸ low_below h hhl) hzt
          · exact h
        go_wp2_with (go_at_call 134; refine (less64_any _ _ _).mono ?_; rintro _ w1 ⟨rfl, rfl⟩)
        go_round
        case rel => exact ⟨x, (x + y) / 2, rfl, by go_num, hx, hup, by omega⟩
        case measure => simp [intOf]; omega
    · obtain rfl : x = low zs t := by omega
      obtain rfl : y = low zs t := by omega
      by_cases hin : low zs t < zs.length
      · have HHL := hin
        obtain ⟨b, off, rfl, hc⟩ := hrow (by intro e; rw [List.map_eq_nil_iff] at e; subst e; simp at HHL)
        obtain ⟨z, hz⟩ : ∃ z, zs[low zs t] = z := ⟨_, rfl⟩
        have hcell : w.cell? ⟨b, off + low zs t, none⟩ = some (.int .i64 z) := hc _ _ (by rw [List.getElem?_map, List.getElem?_eq_getElem hin, hz]; rfl)
        have hm : decide (t ∈ zs) = (z == t) := by
          rw [← hz]
          by_cases e : zs[low zs t] = t
          · simp [(low_mem HS.out).2 ⟨hin, e⟩, e]
          · have : ¬ t ∈ zs := fun h => by obtain ⟨_, e2⟩ := (low_mem HS.out).1 h; exact e e2
            simp [this, e]
        have j1 : ((low zs t : Nat) : Int) < (zs.length : Int) := by omega
        have HM := Lib.hid hm
        have HC := Lib.hid hc
        have HZ := Lib.hid hz
        clear hm hc hz hle hx hy
        cases hzt : (z == t) with
        | true =>
          go_wp2_with (go_at_call 135; refine (sNaN_any _ _).mono ?_; rintro _ w1 ⟨rfl, rfl⟩)
          go_ret2
          exact ⟨by rw [HM.out, hzt]; rfl, rfl⟩
        | false =>
          go_wp2_with (go_at_call 135; refine (sNaN_any _ _).mono ?_; rintro _ w1 ⟨rfl, rfl⟩)
          go_ret2
          exact ⟨by rw [HM.out, hzt]; rfl, rfl⟩
      · have hm : decide (t ∈ zs) = false := by
          simp only [decide_eq_false_iff_not]
          intro h
          obtain ⟨h1, _⟩ := (low_mem HS.out).1 h
          exact hin h1
        have HM := Lib.hid hm
        have j1 : ¬ ((low zs t : Nat) : Int) < (zs.length : Int) := by omega
        clear hm
        go_wp2_with fail
        go_ret2
        exact ⟨by rw [HM.out]; rfl, rfl⟩

end Go.Proofs.YtlmdpcaikhdenaaGreat
