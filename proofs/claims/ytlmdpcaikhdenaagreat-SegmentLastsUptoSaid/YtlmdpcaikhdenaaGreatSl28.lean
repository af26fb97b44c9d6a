/- Texts of this claim, one behind the other: Shl. -/
import Derived.Test.YtlmdpcaikhdenaaGreatSl26
import Derived.Test.YtlmdpcaikhdenaaGreatSl27
set_option linter.unusedSimpArgs false
set_option linter.unusedVariables false
/- Segment: Append, over any device whose Write is known. (printed by gen/app17.py) -/
namespace Go.Proofs.YtlmdpcaikhdenaaGreat
open Go.RowKit Go.Maps

/-- a state of a device that lies in memory: F are the blocks that it writes, G those that it reads, too -/
structure Lies (At : (Nat → Prop) → (Nat → Prop) → World → Prop) : Prop where
  kept : ∀ {F G O : Nat → Prop} {w w' : World}, At F G w → Chg O w w' → (∀ b, F b → ¬ O b) → (∀ b, G b → ¬ O b) → At F G w'
  lt : ∀ {F G : Nat → Prop} {w : World}, At F G w → (∀ b, F b → b < w.heap.size) ∧ (∀ b, G b → b < w.heap.size) ∧ (∀ b, F b → ¬ G b)
theorem Lies.below {At : (Nat → Prop) → (Nat → Prop) → World → Prop} (h : Lies At) {F G : Nat → Prop} {w w' : World} (ha : At F G w) (hb : Below w.heap.size w w') : At F G w' := h.kept (O := fun _ => False) ha (Chg.of_below hb) (fun _ _ h => h) (fun _ _ h => h)
theorem Lies.one (p : Nat) (s : DSt) : Lies (fun F G w => One F G w p s) := ⟨fun h hc hF hG => h.kept hc hF hG, fun h => ⟨h.lt.1, h.lt.2.1, h.lt.2.2.1⟩⟩
theorem Moved.andThen {F G F' G' : Nat → Prop} {w w1 w2 : World} (h : Moved F G F' G' w w1) (hc : Chg (fun b => w.heap.size ≤ b) w1 w2) : Moved F G F' G' w w2 :=
  ⟨h.1.trans hc (fun b hb hl => by omega), fun b hb => ⟨(h.2.1 b hb).1, Nat.lt_of_lt_of_le (h.2.1 b hb).2 hc.size⟩, fun b hb => ⟨(h.2.2 b hb).1, Nat.lt_of_lt_of_le (h.2.2 b hb).2 hc.size⟩⟩
/-- a segment behind entries that were written -/
def SegV.behind (v : SegV) (M : List (List UInt8)) (n : Int) : SegV := ⟨v.first, v.entries ++ M, v.good + n, if v.size ≤ v.good + n then v.good + n else v.size, if v.size ≤ v.good + n then 0 else v.why⟩
/-- what a function answers that tells a segment and changes a device -/
def SegPost (F G : Nat → Prop) (At' : (Nat → Prop) → (Nat → Prop) → World → Prop) (w : World) (r : SegV × Int) (e : Ending) (w' : World) : Prop :=
  ∃ es F' G', e = .returned (.tuple #[.agg (r.1.cells es), .int .i64 r.2]) ∧ EntIn (fun b => w.heap.size ≤ b ∧ ¬ F' b ∧ ¬ G' b) w' es r.1.entries ∧ At' F' G' w' ∧ Moved F G F' G' w w'
theorem SegPost.of_scan {F G : Nat → Prop} {At : (Nat → Prop) → (Nat → Prop) → World → Prop} (hL : Lies At) {w w' : World} (ha : At F G w) {r : SegV × Int} {e : Ending} {es : Value} (he : e = .returned (.tuple #[.agg (r.1.cells es), .int .i64 r.2])) (hE : EntIn (fun b => w.heap.size ≤ b) w' es r.1.entries) (hb : Below w.heap.size w w') : SegPost F G At w r e w' := by
  have hl := hL.lt ha
  refine ⟨es, F, G, he, hE.kept (Chg.refl (fun _ => False) _) (fun _ _ h => h) (fun b hb => ⟨hb, fun hf => ?_, fun hg => ?_⟩), hL.below ha hb, Chg.of_below hb, fun b hf => ⟨.inl hf, ?_⟩, fun b hg => ⟨.inl hg, ?_⟩⟩
  · have := hl.1 b hf; omega
  · have := hl.2.1 b hg; omega
  · have := hl.1 b hf; have := hb.size; omega
  · have := hl.2.1 b hg; have := hb.size; omega
section
variable {At At' : (Nat → Prop) → (Nat → Prop) → World → Prop} {F G : Nat → Prop} {w : World} {dt : TypeId} {dp : Nat} {f g z y : Int} {a b : Option Addr} {c cb : Nat} {L M : List (List UInt8)}
set_option maxRecDepth 100000 in
set_option maxHeartbeats 8000000 in
theorem append_nil (hL : Lies At) (ha : At F G w) (hg : 0 ≤ g) (hl : L.length ≤ 1000000000) (hLb : ∀ e ∈ L, e.length ≤ 140737488355328) (hA : EntsAt w a L) (hf : fitsE f L.length [] = 0) : Calls Tryz.prog 18 #[.iface dt (.pointer (some ⟨dp, 0, none⟩)), .agg #[.int .i64 f, .slice a L.length c, .int .i64 g, .int .i64 z, .int .i64 y], .slice b 0 cb] w (SegPost F G At w (⟨f, L, g, z, y⟩, 0)) := by
  obtain ⟨w1, hw1⟩ : ∃ w1, ((w.alloc (.cells #[.iface dt (.pointer (some ⟨dp, 0, none⟩))] 101)).alloc (.cells #[.int .i64 f, .slice a L.length c, .int .i64 g, .int .i64 z, .int .i64 y] 42)).alloc (.cells #[.int .i64 0, .slice none 0 0, .int .i64 0, .int .i64 0, .int .i64 0] 42) = w1 := ⟨_, rfl⟩
  have hb1 : Below w.heap.size w w1 := by rw [← hw1]; exact ((below_alloc w _).alloc (by simp) _).alloc (by simp; omega) _
  have hz1 : w1.heap.size = w.heap.size + 3 := by rw [← hw1]; simp
  have hx : w1.heap[w.heap.size]? = some (.cells #[.iface dt (.pointer (some ⟨dp, 0, none⟩))] 101 (0, 0)) ∧ w1.heap[w.heap.size + 1]? = some (.cells #[.int .i64 f, .slice a L.length c, .int .i64 g, .int .i64 z, .int .i64 y] 42 (0, 0)) ∧ w1.heap[w.heap.size + 2]? = some (.cells #[.int .i64 0, .slice none 0 0, .int .i64 0, .int .i64 0, .int .i64 0] 42 (0, 0)) := by rw [← hw1]; exact alloc_at3 w _ _ _
  obtain ⟨hx0, hx1, hx2⟩ := hx
  have c0 := cell_of_heap hx0 (i := 0) (v := .iface dt (.pointer (some ⟨dp, 0, none⟩))) (by rfl)
  have p0 := cell_of_heap hx1 (i := 0) (v := .int .i64 f) (by rfl)
  have p1 := cell_of_heap hx1 (i := 1) (v := .slice a L.length c) (by rfl)
  have p2 := cell_of_heap hx1 (i := 2) (v := .int .i64 g) (by rfl)
  have p3 := cell_of_heap hx1 (i := 3) (v := .int .i64 z) (by rfl)
  have p4 := cell_of_heap hx1 (i := 4) (v := .int .i64 y) (by rfl)
  have d1 : decide (g < 0) = false := by simpa using hg
  have hF := fits_any (w := w1) (f := f) hl (c := cb) (EntsAt.nil w1 b) (by simp)
  rw [hf] at hF
  have hC := fun (W : World) (hW : Below w1.heap.size w1 W) => copied_any (w := W) (c := c) (f := f) (g := g) (z := z) (y := y) ((hA.below hb1).below hW) hl hLb
  have HC := Lib.hid hC
  have HW := Lib.hid hw1
  have HX := Lib.hid (And.intro hx0 (And.intro hx1 hx2))
  have HB := Lib.hid hb1
  have HZ := Lib.hid hz1
  clear hw1 hx0 hx1 hx2 hb1 hf hA hC hLb hz1
  go_enter Tryz.func18, Tryz.ntmps18
  go_wp2_with (first
    | rw [HW.out]
    | rw [HW4.out]
    | (go_at_call 37; refine hF.mono ?_; rintro _ w2 ⟨rfl, hb2⟩; have hx12 := (hb2.block _ (heap_lt HX.out.2.1)).trans HX.out.2.1; have hx22 := (hb2.block _ (heap_lt HX.out.2.2)).trans HX.out.2.2; have t0 := cell_of_heap hx12 (i := 0) (v := .int .i64 f) (by rfl); have t1 := cell_of_heap hx12 (i := 1) (v := .slice a L.length c) (by rfl); have t2 := cell_of_heap hx12 (i := 2) (v := .int .i64 g) (by rfl); have t3 := cell_of_heap hx12 (i := 3) (v := .int .i64 z) (by rfl); have t4 := cell_of_heap hx12 (i := 4) (v := .int .i64 y) (by rfl); have hC := HC.out w2 hb2)
    | (go_at_call 46; refine hC.mono ?_; rintro _ w3 ⟨es, rfl, hE, hb3⟩; obtain ⟨xa, xc, rfl⟩ := hE.slice; have hx13 := (hb3.block _ (heap_lt hx12)).trans hx12; have q0 := cell_of_heap hx13 (i := 0) (v := .int .i64 f) (by rfl); have q1 := cell_of_heap hx13 (i := 1) (v := .slice a L.length c) (by rfl); have q2 := cell_of_heap hx13 (i := 2) (v := .int .i64 g) (by rfl); have q3 := cell_of_heap hx13 (i := 3) (v := .int .i64 z) (by rfl); have q4 := cell_of_heap hx13 (i := 4) (v := .int .i64 y) (by rfl); have z0 := frozen_of_heap (i := 0) hx13; have z1 := frozen_of_heap (i := 1) hx13; have z2 := frozen_of_heap (i := 2) hx13; have z3 := frozen_of_heap (i := 3) hx13; have z4 := frozen_of_heap (i := 4) hx13; obtain ⟨w4, hw4, hx14, hc4⟩ := set5 (x := .int .i64 f) (y := .slice xa L.length xc) (z := .int .i64 g) (u := .int .i64 z) (v := .int .i64 y) hx13; have HW4 := Lib.hid hw4; clear hw4; have hx24 := hc4.obj ((hb3.block _ (heap_lt hx22)).trans hx22) (by omega); have s0 := cell_of_heap hx14 (i := 0) (v := .int .i64 f) (by rfl); have s1 := cell_of_heap hx14 (i := 1) (v := .slice xa L.length xc) (by rfl); have s2 := cell_of_heap hx14 (i := 2) (v := .int .i64 g) (by rfl); have s3 := cell_of_heap hx14 (i := 3) (v := .int .i64 z) (by rfl); have s4 := cell_of_heap hx14 (i := 4) (v := .int .i64 y) (by rfl); have r0 := cell_of_heap hx24 (i := 0) (v := .int .i64 0) (by rfl); have r1 := cell_of_heap hx24 (i := 1) (v := .slice none 0 0) (by rfl); have r2 := cell_of_heap hx24 (i := 2) (v := .int .i64 0) (by rfl); have r3 := cell_of_heap hx24 (i := 3) (v := .int .i64 0) (by rfl); have r4 := cell_of_heap hx24 (i := 4) (v := .int .i64 0) (by rfl); have z0 := frozen_of_heap (i := 0) hx24; have z1 := frozen_of_heap (i := 1) hx24; have z2 := frozen_of_heap (i := 2) hx24; have z3 := frozen_of_heap (i := 3) hx24; have z4 := frozen_of_heap (i := 4) hx24))
  obtain ⟨Y, hY, hyx, hcY⟩ := set5 (x := .int .i64 f) (y := .slice xa L.length xc) (z := .int .i64 g) (u := .int .i64 z) (v := .int .i64 y) hx24
  rw [hY]
  have y0 := cell_of_heap hyx (i := 0) (v := .int .i64 f) (by rfl)
  have y1 := cell_of_heap hyx (i := 1) (v := .slice xa L.length xc) (by rfl)
  have y2 := cell_of_heap hyx (i := 2) (v := .int .i64 g) (by rfl)
  have y3 := cell_of_heap hyx (i := 3) (v := .int .i64 z) (by rfl)
  have y4 := cell_of_heap hyx (i := 4) (v := .int .i64 y) (by rfl)
  refine bodyPost_ret (v := .tuple #[.agg #[.int .i64 f, .slice xa L.length xc, .int .i64 g, .int .i64 z, .int .i64 y], .int .i64 0]) (by simp [results, Tryz.results18, go_sem, y0, y1, y2, y3, y4]) rfl ?_
  have hz1 := HZ.out
  have hs2 := hb2.size
  have hs3 := hb3.size
  have hbb : Below w.heap.size w Y := Chg.ret (Chg.ret ((HB.out.trans (hb2.mono HB.out.size)).trans (hb3.mono (by omega))) (by omega) hc4) (by omega) hcY
  exact SegPost.of_scan (r := (⟨f, L, g, z, y⟩, 0)) hL ha rfl (((hE.kept (R' := fun b => w2.heap.size ≤ b) hc4 (fun x hx e => by omega) (fun _ h => h)).kept hcY (fun x hx e => by omega) (fun x hx => by omega))) hbb
theorem encL_len_le (n : Nat) (L : List (List UInt8)) (h : ∀ e ∈ L, e.length ≤ 4096) : (encL n L).length ≤ L.length * 4115 := by
  induction L generalizing n with
  | nil => simp [encL]
  | cons e r ih =>
    have h1 := ih (n := n + 1) (fun e he => h e (List.mem_cons_of_mem _ he))
    have h2 := h e List.mem_cons_self
    rw [encL, List.length_append, frame_len, one_len, List.length_cons, Nat.add_mul]
    omega
theorem fits_ok {f : Int} {many : Nat} {M : List (List UInt8)} (h : fitsE f many M = 0) : 0 ≤ f ∧ f ≤ 4611686018427387904 ∧ (0 < M.length → f + ((many : Int) + (M.length : Int)) ≤ 4611686018427387905) ∧ many + M.length ≤ 4096 ∧ ∀ e ∈ M, e.length ≤ 4096 := by
  unfold fitsE at h
  split at h; · omega
  rename_i h1
  split at h; · omega
  rename_i h2
  split at h; · omega
  rename_i h3
  refine ⟨by omega, by omega, fun hm => by omega, by omega, fun e he => ?_⟩
  have : ¬ 4096 < e.length := fun hc => h3 ⟨e, he, hc⟩
  omega
/-- the loop of Append: k entries are behind -/
def AppAt (w w7 wr : World) (At' : (Nat → Prop) → (Nat → Prop) → World → Prop) (F' G' : Nat → Prop) (b9 : Nat) (f g z y : Int) (L M : List (List UInt8)) (k : Nat) (ea : Option Addr) (ec : Nat) : Prop :=
  wr.heap[w.heap.size + 1]? = some (.cells #[.int .i64 f, .slice ea (L.length + k) ec, .int .i64 g, .int .i64 z, .int .i64 y] 42 (0, 0)) ∧
  EntIn (fun x => w.heap.size + 2 < x ∧ x ≠ b9 ∧ ¬ F' x ∧ ¬ G' x) wr (.slice ea (L.length + k) ec) (L ++ M.take k) ∧ Chg (fun x => x = w.heap.size + 1 ∨ (w.heap.size + 2 < x ∧ x ≠ b9 ∧ ¬ F' x ∧ ¬ G' x)) w7 wr
theorem EntIn.lt {R : Nat → Prop} {w : World} {v : Value} {L : List (List UInt8)} (h : EntIn R w v L) : EntIn (fun b => R b ∧ b < w.heap.size) w v L := by
  obtain ⟨vs, k1, k2, k3, k4⟩ := h
  refine ⟨vs, k1, fun b hb => ⟨k2 b hb, (k1.lt b hb).2⟩, k3, fun i x l hx hl => ?_⟩
  obtain ⟨xa, xc, rfl, q1, q2, q3, q4, q5, q6⟩ := k4 i x l hx hl
  refine ⟨xa, xc, rfl, q1, q2, q3, fun y e => ⟨q4 y e, ?_⟩, q5, q6⟩
  rcases q6.2 with ⟨e2, _⟩ | ⟨g2, cap, cur, e2, _, hg2, _⟩
  · simp only [Value.slice.injEq] at e2
    rw [e2.1] at e; cases e
  · simp only [Value.slice.injEq] at e2
    rw [e2.1] at e; cases e
    exact heap_lt hg2
theorem EntIn.mono {R R' : Nat → Prop} {w : World} {v : Value} {L : List (List UInt8)} (h : EntIn R w v L) (hR : ∀ b, R b → R' b) : EntIn R' w v L := h.kept (Chg.refl (fun _ => False) _) (fun _ _ h => h) hR
theorem app_next {w w7 wr w8 w9 : World} {At' : (Nat → Prop) → (Nat → Prop) → World → Prop} {F' G' : Nat → Prop} {b9 : Nat} {f g z y : Int} {L M : List (List UInt8)} {k : Nat} {ea ya ta : Option Addr} {ec yc tc : Nat} {x : List UInt8} {vs : List Value}
    (hx1 : wr.heap[w.heap.size + 1]? = some (.cells #[.int .i64 f, .slice ea (L.length + k) ec, .int .i64 g, .int .i64 z, .int .i64 y] 42 (0, 0))) (hcw : Chg (fun x => x = w.heap.size + 1 ∨ (w.heap.size + 2 < x ∧ x ≠ b9 ∧ ¬ F' x ∧ ¬ G' x)) w7 wr)
    (s1 : wr.ownsRow 0 26 1 (.slice ea (L.length + k) ec) (L.length + k) vs) (s2 : ∀ b, (Value.slice ea (L.length + k) ec).ownBlock = some b → w.heap.size + 2 < b ∧ b ≠ b9 ∧ ¬ F' b ∧ ¬ G' b) (s3 : vs.length = L.length + k) (s4 : ∀ (i : Nat) x l, vs[i]? = some x → (L ++ M.take k)[i]? = some l → BytesIn wr (fun x => w.heap.size + 2 < x ∧ x ≠ b9 ∧ ¬ F' x ∧ ¬ G' x) x l)
    (hk : k ≤ M.length) (hx : M[k]? = some x) (h7 : w.heap.size + 2 < w7.heap.size) (h9 : b9 < w7.heap.size) (hF : ∀ b, F' b ∨ G' b → b < w7.heap.size)
    (hV : BytesIn w8 (fun b => wr.heap.size ≤ b) (.slice ta x.length tc) x) (hb8 : Below wr.heap.size wr w8) (r9 : w9.ownsRow 0 26 1 (.slice ya (L.length + k + 1) yc) (L.length + k + 1) (vs ++ [.slice ta x.length tc])) (g9 : Grew (.slice ea (L.length + k) ec) (w8.alloc (.cells #[.slice ta x.length tc] 26)) (.slice ya (L.length + k + 1) yc) w9) :
    AppAt w w7 (w9.setCell ⟨w.heap.size + 1, 1, none⟩ (.slice ya (L.length + k + 1) yc)) At' F' G' b9 f g z y L M (k + 1) ya yc := by
  have hz := hcw.size
  have hz8 := hb8.size
  have hts : L ++ M.take (k + 1) = (L ++ M.take k) ++ [x] := by rw [List.take_add_one, hx]; simp
  have hlk : (L ++ M.take k).length = L.length + k := by simp; omega
  have hg1 : Chg (fun b => (Value.slice ea (L.length + k) ec).ownBlock = some b) wr w9 := ((Chg.of_below (O := fun _ => False) hb8).trans (Chg.alloc (fun _ => False) w8 (.cells #[.slice ta x.length tc] 26)) (fun _ h _ => h) |>.mono (fun _ h _ => h.elim)).trans g9.1 (fun _ h _ => h)
  have hx9 := hg1.obj hx1 (fun e => by have := (s2 _ e).1; omega)
  have hst : Chg (· = w.heap.size + 1) w9 (w9.setCell ⟨w.heap.size + 1, 1, none⟩ (.slice ya (L.length + k + 1) yc)) := Chg.set _ rfl
  refine ⟨by have := heap_set_cells (i := 1) (.slice ya (L.length + k + 1) yc) hx9; simpa [Nat.add_assoc] using this, ?_, ?_⟩
  · rw [hts, show L.length + (k + 1) = L.length + k + 1 from rfl]
    refine EntIn.kept (R := fun x => w.heap.size + 2 < x ∧ x ≠ b9 ∧ ¬ F' x ∧ ¬ G' x) ?_ hst (fun b hb e => by have : b = w.heap.size + 1 := e; omega) (fun _ h => h)
    have hnew : ∀ b, wr.heap.size ≤ b → w.heap.size + 2 < b ∧ b ≠ b9 ∧ ¬ F' b ∧ ¬ G' b := fun b hb => ⟨by omega, by omega, fun h => by have := hF b (.inl h); omega, fun h => by have := hF b (.inr h); omega⟩
    have hres := EntIn.push (R := fun x => w.heap.size + 2 < x ∧ x ≠ b9 ∧ ¬ F' x ∧ ¬ G' x) (w := w8) (L := L ++ M.take k) (vs := vs) (v := .slice ea (L.length + k) ec) (x := .slice ta x.length tc) (l := x) (w1 := w8.alloc (.cells #[.slice ta x.length tc] 26)) (w2 := w9) (v' := .slice ya (L.length + k + 1) yc)
      (by rw [hlk]; exact (Chg.of_below (O := fun _ => False) hb8).row s1 (fun _ _ h => h)) s2 (by rw [hlk]; exact s3) (fun i x l hx hl => (s4 i x l hx hl).kept (Chg.of_below (O := fun _ => False) hb8) (fun _ _ h => h) (fun _ h => h)) (hV.kept (Chg.refl (fun _ => False) _) (fun _ _ h => h) hnew) (Chg.alloc _ w8 _) (by rw [hlk]; exact r9) g9
      (fun b' cs fr hb' hcs => by
        obtain ⟨cs2, fr2, h2⟩ := ownsRow_ty (((Chg.of_below (O := fun _ => False) hb8).row s1 (fun _ _ h => h)).alloc (.cells #[.slice ta x.length tc] 26)) hb'
        rw [h2] at hcs
        simp only [Option.some.injEq, Obj.cells.injEq] at hcs
        exact absurd hcs.2.1 (by decide))
      (fun b hb => hnew b (by simp at hb; omega))
    exact hres
  · exact (hcw.trans (hg1.mono (fun b h _ => Or.inr (s2 b h))) (fun _ h _ => h)).trans hst (fun _ h _ => .inl h)
theorem wr_facts {f : Nat} {g z : Int} {en m : Nat} (hg : 0 ≤ g) (hg1 : g ≤ 1099511627776) (hen : en ≤ m * 4115) (hm : m ≤ 4096) : IntKind.i64.wrap (g + (en : Int)) = g + (en : Int) := Go.IntWalk.i64_in _ (by omega)
set_option maxRecDepth 100000 in
set_option maxHeartbeats 32000000 in
theorem append_go (hL : Lies At) (hL' : Lies At') (ha : At F G w) {er : Int} (hg : 0 ≤ g) (hg1 : er = 0 → g ≤ 1099511627776) (hLb : ∀ e ∈ L, e.length ≤ 140737488355328) (hA : EntsAt w a L) (hM : ∀ w', Chg F w w' → EntsAt w' b M) (hM0 : M ≠ []) (hf : fitsE f L.length M = 0)
    (hA1 : ∀ (W : World) (b3 b4 b9 : Nat) (e3 e9 : TypeId) (es : Value) (ua : Option Addr) (uc : Nat), At F G W → W.heap[b3]? = some (.cells #[.iface dt (.pointer (some ⟨dp, 0, none⟩))] e3 (0, 0)) → W.heap[b4]? = some (.cells #[.int .i64 f, es, .int .i64 g, .int .i64 z, .int .i64 y] 42 (0, 0)) → W.heap[b9]? = some (.cells #[.slice ua (encL (f.toNat + L.length) M).length uc] e9 (0, 0)) → RowAt W ua ((encL (f.toNat + L.length) M).map bv) → (ua = none → uc = 0) → (∀ x, ua = some x → ¬ F x.block) →
      Calls Tryz.prog 47 #[.string ⟨(segName f).toArray⟩, .pointer (some ⟨b3, 0, none⟩), .pointer (some ⟨b4, 0, none⟩), .pointer (some ⟨b9, 0, none⟩)] W fun e w' => e = .returned (.int .i64 er) ∧ ∃ F' G', At' F' G' w' ∧ Moved F G F' G' W w') :
    Calls Tryz.prog 18 #[.iface dt (.pointer (some ⟨dp, 0, none⟩)), .agg #[.int .i64 f, .slice a L.length c, .int .i64 g, .int .i64 z, .int .i64 y], .slice b M.length cb] w (SegPost F G At' w (if er = 0 then SegV.behind ⟨f, L, g, z, y⟩ M ((encL (f.toNat + L.length) M).length : Int) else SegV.none, er)) := by
  obtain ⟨f0, f1, f2, f3, f4⟩ := fits_ok hf
  obtain ⟨n, rfl⟩ := Int.eq_ofNat_of_zero_le f0
  have hl : L.length ≤ 1000000000 := by omega
  have hm : M.length ≤ 1000000000 := by omega
  have hm0 : 0 < M.length := by
    cases M with
    | nil => exact absurd rfl hM0
    | cons x r => simp
  obtain ⟨w1, hw1⟩ : ∃ w1, ((w.alloc (.cells #[.iface dt (.pointer (some ⟨dp, 0, none⟩))] 101)).alloc (.cells #[.int .i64 (n : Int), .slice a L.length c, .int .i64 g, .int .i64 z, .int .i64 y] 42)).alloc (.cells #[.int .i64 0, .slice none 0 0, .int .i64 0, .int .i64 0, .int .i64 0] 42) = w1 := ⟨_, rfl⟩
  have hb1 : Below w.heap.size w w1 := by rw [← hw1]; exact ((below_alloc w _).alloc (by simp) _).alloc (by simp; omega) _
  have hz1 : w1.heap.size = w.heap.size + 3 := by rw [← hw1]; simp
  have hx : w1.heap[w.heap.size]? = some (.cells #[.iface dt (.pointer (some ⟨dp, 0, none⟩))] 101 (0, 0)) ∧ w1.heap[w.heap.size + 1]? = some (.cells #[.int .i64 (n : Int), .slice a L.length c, .int .i64 g, .int .i64 z, .int .i64 y] 42 (0, 0)) ∧ w1.heap[w.heap.size + 2]? = some (.cells #[.int .i64 0, .slice none 0 0, .int .i64 0, .int .i64 0, .int .i64 0] 42 (0, 0)) := by rw [← hw1]; exact alloc_at3 w _ _ _
  obtain ⟨hx0, hx1, hx2⟩ := hx
  have c0 := cell_of_heap hx0 (i := 0) (v := .iface dt (.pointer (some ⟨dp, 0, none⟩))) (by rfl)
  have p0 := cell_of_heap hx1 (i := 0) (v := .int .i64 (n : Int)) (by rfl)
  have p1 := cell_of_heap hx1 (i := 1) (v := .slice a L.length c) (by rfl)
  have p2 := cell_of_heap hx1 (i := 2) (v := .int .i64 g) (by rfl)
  have p3 := cell_of_heap hx1 (i := 3) (v := .int .i64 z) (by rfl)
  have p4 := cell_of_heap hx1 (i := 4) (v := .int .i64 y) (by rfl)
  have d1 : decide (g < 0) = false := by simpa using hg
  have d4 : ((M.length : Int) == 0) = false := by simp; omega
  have hF := fits_any (w := w1) (f := n) hl (c := cb) (hM w1 (Chg.of_below hb1)) hm
  rw [hf] at hF
  have hnk : IntKind.i64.wrap ((n : Int) + (L.length : Int)) = ((n + L.length : Nat) : Int) := (Go.IntWalk.i64_in _ (by omega)).trans (by omega)
  have hC := fun (W : World) (hW : Below w1.heap.size w1 W) => copied_any (w := W) (c := c) (f := (n : Int)) (g := g) (z := z) (y := y) ((hA.below hb1).below hW) hl hLb
  have HC := Lib.hid hC
  have hen := encL_len_le (n + L.length) M f4
  have hFR := fun (W : World) (hW : Below w.heap.size w W) => frames_any (w := W) (n := n + L.length) (c := cb) (hM W (Chg.of_below hW)) (by omega) f4 (by omega)
  have HFR := Lib.hid hFR
  have hent : ∀ args w, (callFunc 47 args).run Tryz.prog w = .ok (.enter 47 args) w := enters_of Tryz.func47 (by kernel_rfl) rfl
  have HST : Hid (∀ (W : World) (es : Value) (ua : Option Addr) (uc b9 : Nat), Below w.heap.size w W → W.heap[w.heap.size]? = some (.cells #[.iface dt (.pointer (some ⟨dp, 0, none⟩))] 101 (0, 0)) → W.heap[w.heap.size + 1]? = some (.cells #[.int .i64 (n : Int), es, .int .i64 g, .int .i64 z, .int .i64 y] 42 (0, 0)) → W.heap[b9]? = some (.cells #[.slice ua (encL (n + L.length) M).length uc] 26 (0, 0)) → RowAt W ua ((encL (n + L.length) M).map bv) → (ua = none → uc = 0) → (∀ x, ua = some x → w.heap.size ≤ x.block) →
      Calls Tryz.prog 45 #[.iface dt (.pointer (some ⟨dp, 0, none⟩)), .int .i64 (n : Int), .func (.func 47) #[] #[.pointer (some ⟨w.heap.size, 0, none⟩), .pointer (some ⟨w.heap.size + 1, 0, none⟩), .pointer (some ⟨b9, 0, none⟩)]] W fun e w' => e = .returned (.int .i64 er) ∧ ∃ F' G', At' F' G' w' ∧ Moved F G F' G' W w') := Lib.hid (by
    intro W es ua uc b9 hW k3 k4 k9 kr kn ks
    refine (step_fn f0 f1 (N := 47) hent _ (Q := fun W' e w' => e = .returned (.int .i64 er) ∧ ∃ F' G', At' F' G' w' ∧ Moved F G F' G' W' w') (fun W' e w' hq => ⟨_, hq.1⟩) (fun W' hW' => ?_)).mono ?_
    · have hl := (hL.lt ha).1
      exact hA1 W' _ _ _ _ _ es ua uc (hL.below (hL.below ha hW) (hW'.mono (Nat.le_refl _))) ((hW'.block _ (heap_lt k3)).trans k3) ((hW'.block _ (heap_lt k4)).trans k4) ((hW'.block _ (heap_lt k9)).trans k9) (kr.below hW') kn (fun x e hf => by have := ks x e; have := hl _ hf; omega)
    · rintro e w' ⟨W', hW', k1, F', G', k2, k5⟩
      exact ⟨k1, F', G', k2, k5.after hW'⟩)
  have hwr := fun (he : er = 0) => wr_facts (f := n) hg (hg1 he) hen (by omega : M.length ≤ 4096) (z := z)
  have HWR := Lib.hid hwr
  have HW := Lib.hid hw1
  have HX := Lib.hid (And.intro hx0 (And.intro hx1 hx2))
  have HB := Lib.hid hb1
  have HZ := Lib.hid hz1
  have HAt := Lib.hid (And.intro hL (And.intro hL' ha))
  have HM := Lib.hid hM
  have HF4 := Lib.hid f4
  have HM0 := Lib.hid hm0
  have hd0 : (0 : Int) ≤ (n : Int) := by omega
  clear hw1 hx0 hx1 hx2 hb1 hf hA hC hLb hz1 hL hL' ha hM hFR hA1 hent f0 f1 f2 f4 hM0 hm0 hwr hg1 hen
  generalize hEN : encL (n + L.length) M = en at *
  go_enter Tryz.func18, Tryz.ntmps18
  go_upto_region 13 with (first
    | rw [HW.out]
    | rw [HW4.out]
    | rw [HW6.out]
    | (go_at_call 37; refine hF.mono ?_; rintro _ w2 ⟨rfl, hb2⟩; have hx12 := (hb2.block _ (heap_lt HX.out.2.1)).trans HX.out.2.1; have hx22 := (hb2.block _ (heap_lt HX.out.2.2)).trans HX.out.2.2; have t0 := cell_of_heap hx12 (i := 0) (v := .int .i64 (n : Int)) (by rfl); have t1 := cell_of_heap hx12 (i := 1) (v := .slice a L.length c) (by rfl); have t2 := cell_of_heap hx12 (i := 2) (v := .int .i64 g) (by rfl); have t3 := cell_of_heap hx12 (i := 3) (v := .int .i64 z) (by rfl); have t4 := cell_of_heap hx12 (i := 4) (v := .int .i64 y) (by rfl); have hC := HC.out w2 hb2)
    | (go_at_call 46; refine hC.mono ?_; rintro _ w3 ⟨es, rfl, hE, hb3⟩; obtain ⟨xa, xc, rfl⟩ := hE.slice; have hx13 := (hb3.block _ (heap_lt hx12)).trans hx12; have q0 := cell_of_heap hx13 (i := 0) (v := .int .i64 (n : Int)) (by rfl); have q1 := cell_of_heap hx13 (i := 1) (v := .slice a L.length c) (by rfl); have q2 := cell_of_heap hx13 (i := 2) (v := .int .i64 g) (by rfl); have q3 := cell_of_heap hx13 (i := 3) (v := .int .i64 z) (by rfl); have q4 := cell_of_heap hx13 (i := 4) (v := .int .i64 y) (by rfl); have z0 := frozen_of_heap (i := 0) hx13; have z1 := frozen_of_heap (i := 1) hx13; have z2 := frozen_of_heap (i := 2) hx13; have z3 := frozen_of_heap (i := 3) hx13; have z4 := frozen_of_heap (i := 4) hx13; obtain ⟨w4, hw4, hx14, hc4⟩ := set5 (x := .int .i64 (n : Int)) (y := .slice xa L.length xc) (z := .int .i64 g) (u := .int .i64 z) (v := .int .i64 y) hx13; have HW4 := Lib.hid hw4; clear hw4; have hx24 := hc4.obj ((hb3.block _ (heap_lt hx22)).trans hx22) (by omega); have s0 := cell_of_heap hx14 (i := 0) (v := .int .i64 (n : Int)) (by rfl); have s1 := cell_of_heap hx14 (i := 1) (v := .slice xa L.length xc) (by rfl); have s2 := cell_of_heap hx14 (i := 2) (v := .int .i64 g) (by rfl); have s3 := cell_of_heap hx14 (i := 3) (v := .int .i64 z) (by rfl); have s4 := cell_of_heap hx14 (i := 4) (v := .int .i64 y) (by rfl); have hx04 := hc4.obj ((hb3.block _ (by have := heap_lt HX.out.1; have := hb2.size; omega)).trans ((hb2.block _ (heap_lt HX.out.1)).trans HX.out.1)) (by omega); have hbw4 : Below w.heap.size w w4 := Chg.ret ((HB.out.trans (hb2.mono HB.out.size)).trans (hb3.mono (Nat.le_trans HB.out.size hb2.size))) (by omega) hc4; have hFr := HFR.out w4 hbw4)
    | (go_at_call 38; refine hFr.mono ?_; rintro _ w5 ⟨U, rfl, hU, hb5⟩; obtain ⟨ua, uc, rfl, hule, hunl, hurow, hublk, _, _⟩ := hU; obtain ⟨w6, hw6⟩ : ∃ w6, w5.alloc (.cells #[.slice ua en.length uc] 26) = w6 := ⟨_, rfl⟩; have hb6 : Below w5.heap.size w5 w6 := (by rw [← hw6]; exact below_alloc _ _); have hz6 : w6.heap.size = w5.heap.size + 1 := (by rw [← hw6]; simp); have hx96 : w6.heap[w5.heap.size]? = some (.cells #[.slice ua en.length uc] 26 (0, 0)) := (by rw [← hw6]; exact World.alloc_heap_new _ _); have HW6 := Lib.hid hw6; have HZ6 := Lib.hid hz6; clear hw6 hz6; have hb46 := hb5.trans (hb6.mono hb5.size); have hx06 := (hb46.block _ (heap_lt hx04)).trans hx04; have hx16 := (hb46.block _ (heap_lt hx14)).trans hx14; have hx26 := (hb46.block _ (heap_lt hx24)).trans hx24; have c6 := cell_of_heap hx06 (i := 0) (v := .iface dt (.pointer (some ⟨dp, 0, none⟩))) (by rfl); have u0 := cell_of_heap hx16 (i := 0) (v := .int .i64 (n : Int)) (by rfl); have hbw6 := hbw4.trans (hb46.mono hbw4.size); have hSt := HST.out w6 (.slice xa L.length xc) ua uc w5.heap.size hbw6 hx06 hx16 hx96 (hurow.below hb6) hunl (fun x e => Nat.le_trans hbw4.size (hublk x e)))
    | (go_at_call 45; refine hSt.mono ?_; rintro _ w7 ⟨rfl, F', G', hAt7, hMv⟩))
  obtain ⟨hL, hL', ha⟩ := HAt.out
  have hlF := hL.lt ha
  have hl7 := hL'.lt hAt7
  have hs1 := HB.out.size
  have hz1 := HZ.out
  have hs2 := hb2.size
  have hs3 := hb3.size
  have hs4 := hc4.size
  have hs5 := hb5.size
  have hz6 := HZ6.out
  have hs7 := hMv.1.size
  have hFo : ∀ b, w.heap.size ≤ b → ¬ F b := fun b hb hf => by have := hlF.1 b hf; omega
  have hFn : ∀ b, w.heap.size ≤ b → b < w6.heap.size → ¬ F' b ∧ ¬ G' b := fun b h1 h2 => ⟨fun h => by rcases (hMv.2.1 b h).1 with h | h; exact hFo b h1 h; omega, fun h => by
    rcases (hMv.2.2 b h).1 with h | h
    · have := hlF.2.1 b h; omega
    · omega⟩
  have hx17 := hMv.1.obj hx16 (hFo _ (by omega))
  have hx27 := hMv.1.obj hx26 (hFo _ (by omega))
  have hx97 := hMv.1.obj hx96 (hFo _ (by omega))
  have hMw : Moved F G F' G' w w7 := hMv.after hbw6
  have hE7 : EntIn (fun x => w.heap.size + 2 < x ∧ x ≠ w5.heap.size ∧ ¬ F' x ∧ ¬ G' x) w7 (.slice xa L.length xc) L := by
    have h1 := (hE.lt.kept (R' := fun b => w2.heap.size ≤ b ∧ b < w3.heap.size) hc4 (fun b hb e => by have : b = w.heap.size + 1 := e; omega) (fun b hb => hb)).below hb46
    exact h1.kept hMv.1 (fun b hb => hFo b (by omega)) (fun b hb => ⟨by omega, by omega, hFn b (by omega) (by omega)⟩)
  have HMV := Lib.hid hMw
  have HX7 := Lib.hid (And.intro hx17 (And.intro hx27 hx97))
  have HE7 := Lib.hid hE7
  have HFN := Lib.hid hFn
  have HL7 := Lib.hid (And.intro hl7 hAt7)
  have HLL := Lib.hid (And.intro hL hL')
  have hwz : w.heap.size + 2 < w7.heap.size := by omega
  have hb9 : w5.heap.size < w7.heap.size := by omega
  have hMr : Hid (∀ W', Chg (fun x => w.heap.size ≤ x) w7 W' → EntsAt W' b M) := Lib.hid (fun W' hW' => HM.out W' (hMw.1.trans hW' (fun x h hl => by omega)))
  clear hMv hE7 hx17 hx27 hx97 hFn hl7 hAt7 hlF hFo hMw hE hx06 hx16 hx26 hx96 hc4 hx14 hx24 hx04 hx12 hx22 hx13 c6 u0 s0 s1 s2 s3 s4 t0 t1 t2 t3 t4 q0 q1 q2 q3 q4 z0 z1 z2 z3 z4 p0 p1 p2 p3 p4 c0 hSt hFr hC hF HST HFR HC hurow hublk hb46 hbw4 hb5 hb6 hb3 hb2
  by_cases he : er = 0
  case neg =>
    rw [if_neg he]
    have e1 : (er != 0) = true := by simpa using he
    have e2 : (er == 0) = false := by simpa using he
    have hxr := HX7.out.2.1
    have r0 := cell_of_heap hxr (i := 0) (v := .int .i64 0) (by rfl)
    have r1 := cell_of_heap hxr (i := 1) (v := .slice none 0 0) (by rfl)
    have r2 := cell_of_heap hxr (i := 2) (v := .int .i64 0) (by rfl)
    have r3 := cell_of_heap hxr (i := 3) (v := .int .i64 0) (by rfl)
    have r4 := cell_of_heap hxr (i := 4) (v := .int .i64 0) (by rfl)
    have z0 := frozen_of_heap (i := 0) hxr
    have z1 := frozen_of_heap (i := 1) hxr
    have z2 := frozen_of_heap (i := 2) hxr
    have z3 := frozen_of_heap (i := 3) hxr
    have z4 := frozen_of_heap (i := 4) hxr
    go_wp2
    obtain ⟨Y, hY, hyx, hcY⟩ := set5 (x := .int .i64 0) (y := .slice none 0 0) (z := .int .i64 0) (u := .int .i64 0) (v := .int .i64 0) hxr
    rw [hY]
    have y0 := cell_of_heap hyx (i := 0) (v := .int .i64 0) (by rfl)
    have y1 := cell_of_heap hyx (i := 1) (v := .slice none 0 0) (by rfl)
    have y2 := cell_of_heap hyx (i := 2) (v := .int .i64 0) (by rfl)
    have y3 := cell_of_heap hyx (i := 3) (v := .int .i64 0) (by rfl)
    have y4 := cell_of_heap hyx (i := 4) (v := .int .i64 0) (by rfl)
    refine bodyPost_ret (v := .tuple #[.agg #[.int .i64 0, .slice none 0 0, .int .i64 0, .int .i64 0, .int .i64 0], .int .i64 er]) (by simp [results, Tryz.results18, go_sem, y0, y1, y2, y3, y4]) rfl ?_
    have hMY := HMV.out.andThen (hcY.mono (fun x h _ => by have : x = w.heap.size + 2 := h; omega))
    have hnf := HFN.out (w.heap.size + 2) (by omega) (by omega)
    exact ⟨_, F', G', rfl, EntIn.nil _ _, HLL.out.2.kept HL7.out.2 hcY (fun x h e => hnf.1 (by have : x = w.heap.size + 2 := e; rw [← this]; exact h)) (fun x h e => hnf.2 (by have : x = w.heap.size + 2 := e; rw [← this]; exact h)), hMY⟩
  case pos =>
    rw [if_pos he]
    have e1 : (er != 0) = false := by simpa using he
    have e2 : (er == 0) = true := by simpa using he
    subst he
    go_wp2
    go_loopw [56] (fun i wr => ∃ (k : Nat) (ea : Option Addr) (ec : Nat), k ≤ M.length ∧ i = .int .i64 k ∧ AppAt w w7 wr At' F' G' w5.heap.size (n : Int) g z y L M k ea ec) (fun i _ => M.length - (RowKit.intOf i).toNat)
    case atStart => exact ⟨0, xa, xc, by omega, rfl, HX7.out.1, by rw [List.take_zero, List.append_nil]; exact HE7.out, Chg.refl _ _⟩
    case round =>
      obtain ⟨k, ea, ec, hk, rfl, hx1, hent, hcw⟩ := hrel
      have hzw := hcw.size
      have hF7 := HL7.out.1
      have hMw := hMr.out wr (hcw.mono (fun x h _ => by omega))
      by_cases hlt : k < M.length
      · obtain ⟨x, hx⟩ : ∃ x, M[k]? = some x := ⟨M[k]'hlt, by simp⟩
        obtain ⟨m1, o1, rfl, cc⟩ := hMw (fun e => by rw [e] at hlt; simp at hlt)
        obtain ⟨va, vc, v1, vr, _, vn⟩ := cc k x hx
        have hxl := HF4.out x (List.mem_of_getElem? hx)
        obtain ⟨i0, hi, hy0, hy1, hy2⟩ := info_parts Tryz.info26
        obtain ⟨vs, s1, s2, s3, s4⟩ := hent
        have hlk : (L ++ M.take k).length = L.length + k := by simp; omega
        rw [hlk] at s1 s3
        have hlm : L.length + k ≤ 1000000000 := by omega
        have hmax : maxLen = 9223372036854775807 := rfl
        have hcl := bclone_any (w := wr.drew) (c := vc) (vr.below (below_drewN (Below.refl _ wr) 1)) vn (by omega)
        have b1 := cell_of_heap (show wr.drew.heap[w.heap.size + 1]? = _ from hx1) (i := 1) (v := .slice ea (L.length + k) ec) (by rfl)
        have j0 : (0 : Int) ≤ (k : Int) := by omega
        have j1 : (k : Int) < (M.length : Int) := by omega
        have hnx : Hid (∀ (w8 w9 : World) (ya ta : Option Addr) (yc tc : Nat), BytesIn w8 (fun b => wr.heap.size ≤ b) (.slice ta x.length tc) x → Below wr.heap.size wr w8 → w9.ownsRow 0 26 1 (.slice ya (L.length + k + 1) yc) (L.length + k + 1) (vs ++ [.slice ta x.length tc]) → Grew (.slice ea (L.length + k) ec) (w8.alloc (.cells #[.slice ta x.length tc] 26)) (.slice ya (L.length + k + 1) yc) w9 →
          AppAt w w7 (w9.setCell ⟨w.heap.size + 1, 1, none⟩ (.slice ya (L.length + k + 1) yc)) At' F' G' w5.heap.size (n : Int) g z y L M (k + 1) ya yc) := Lib.hid (fun w8 w9 ya ta yc tc h1 h2 h3 h4 => app_next hx1 hcw s1 s2 s3 s4 hk hx hwz hb9 (fun b hb => hb.elim (hF7.1 b) (hF7.2.1 b)) h1 h2 h3 h4)
        have HX1 := Lib.hid hx1
        have HS2 := Lib.hid s2
        have HS1 := Lib.hid s1
        clear cc hx hcw hMw s4 s2 s3 hx1 hF7 hlk s1
        go_upto_region 18 with fail
        refine wp_region_held_drew (S := fun _ => True) (by kernel_rfl) (trivial) (fun hHeld => ?_)
        refine wpAnyH_take (i := 0) (v := ?_) rfl (by kernel_rfl) (by kernel_rfl) (by kernel_rfl) (fun _ _ _ h => h) (Or.inl ⟨by rfl, ?_⟩) hHeld ?_
        rotate_left
        · intro w hSw; (try dsimp only at hSw); go_simp
          all_goals (with_reducible rfl)
        (try simp only [Act.put, List.setIfInBounds_toArray, List.set_cons_zero, List.set_cons_succ])
        refine wpAnyH_take (i := 2) (v := ?_) rfl (by kernel_rfl) (by kernel_rfl) (by kernel_rfl) (fun _ _ _ h => h) (Or.inl ⟨by rfl, ?_⟩) hHeld ?_
        rotate_left
        · intro w hSw; (try dsimp only at hSw); go_simp
          all_goals (with_reducible rfl)
        (try simp only [Act.put, List.setIfInBounds_toArray, List.set_cons_zero, List.set_cons_succ])
        refine wpAnyH_ready (rs := [1, 3]) (by kernel_rfl) (by simp) ?_
        refine AllReadyH.cons rfl (fun K hK => ?_) (AllReadyH.cons rfl (fun K hK => ?_) AllReadyH.nil)
        · go_simp
          refine hK.out _ _ trivial (fun hHeld => ?_)
          clear hK K
          (try simp only [Act.put, List.setIfInBounds_toArray, List.set_cons_zero, List.set_cons_succ])
          refine wpAnyH_ready (rs := [3]) (by kernel_rfl) (by simp) ?_
          refine AllReadyH.cons rfl (fun K hK => ?_) AllReadyH.nil
          go_simp
          refine hcl.mono ?_
          rintro _ w8 ⟨U, rfl, hV, hb8⟩
          obtain ⟨ta, tc, rfl, _⟩ := hV.row
          replace hb8 : Below wr.heap.size wr w8 := (below_drewN (Below.refl wr.heap.size wr) 1).trans hb8
          have hx18 := (hb8.block _ (heap_lt HX1.out)).trans HX1.out
          have b18 := cell_of_heap hx18 (i := 1) (v := .slice ea (L.length + k) ec) (by rfl)
          refine hK.out _ _ trivial (fun hHeld => ?_)
          clear hK K
          (try simp only [Act.put, List.setIfInBounds_toArray, List.set_cons_zero, List.set_cons_succ])
          refine wpAnyH_ready (rs := [4]) (by kernel_rfl) (by simp) ?_
          refine AllReadyH.cons rfl (fun K hK => ?_) AllReadyH.nil
          go_simp
          have b19 := cell_of_heap ((Below.heap_alloc w8 (.cells #[.slice ta x.length tc] 26) _ (heap_lt hx18)).trans hx18) (i := 1) (v := .slice ea (L.length + k) ec) (by rfl)
          refine hK.out _ _ trivial (fun hHeld => ?_)
          clear hK K
          (try simp only [Act.put, List.setIfInBounds_toArray, List.set_cons_zero, List.set_cons_succ])
          refine wpAnyH_ready (rs := [5]) (by kernel_rfl) (by simp) ?_
          refine AllReadyH.cons rfl (fun K hK => ?_) AllReadyH.nil
          refine wp_append_seg (.tmp 61) (.tmp 64) 22 rfl 0 26 i0 (.slice none 0 0) 1 24 Tryz.underlying22 hi hy0 hy1 hy2 rfl (by decide) _ (L.length + k) _ rfl (((Chg.of_below (O := fun _ => False) hb8).row HS1.out (fun _ _ h => h)).alloc _) ⟨w8.heap.size, 0, none⟩ 1 1 [.slice ta x.length tc] rfl rfl (cell_one_new _ _ _) (by simp [Value.oneCell']) (by omega) (by omega) (Nat.zero_le _) ?_
          intro v9 w9 r9 g9
          obtain ⟨ya, yc, rfl, _, _⟩ := RowAt.of_owns r9
          have hx19 := g9.1.obj ((Below.heap_alloc w8 (.cells #[.slice ta x.length tc] 26) _ (heap_lt hx18)).trans hx18) (fun e => by have := (HS2.out _ e).1; omega)
          have b1a := cell_of_heap hx19 (i := 1) (v := .slice ea (L.length + k) ec) (by rfl)
          have b1f := frozen_of_heap (i := 1) hx19
          refine hK.out _ _ trivial (fun hHeld => ?_)
          clear hK K
          (try simp only [Act.put, List.setIfInBounds_toArray, List.set_cons_zero, List.set_cons_succ])
          refine wpAnyH_take (i := 6) (v := ?_) rfl (by kernel_rfl) (by kernel_rfl) (by kernel_rfl) (fun _ _ _ h => h) (Or.inl ⟨by rfl, ?_⟩) hHeld ?_
          rotate_left
          · intro w hSw; (try dsimp only at hSw); go_simp
            all_goals (with_reducible rfl)
          (try simp only [Act.put, List.setIfInBounds_toArray, List.set_cons_zero, List.set_cons_succ])
          refine wpAnyH_ready (rs := [7]) (by kernel_rfl) (by simp) ?_
          refine AllReadyH.cons rfl (fun K hK => ?_) AllReadyH.nil
          go_simp
          refine hK.out _ _ trivial (fun hHeld => ?_)
          clear hK K
          (try simp only [Act.put, List.setIfInBounds_toArray, List.set_cons_zero, List.set_cons_succ])
          refine wpAnyH_done (by kernel_rfl) ?_ _
          have HN := Lib.hid (hnx.out w8 w9 ya ta yc tc hV hb8 r9 g9)
          clear r9 g9 hV b1a b1f hx19 hHeld
          go_wp2
          go_roundw
          case rel => exact ⟨k + 1, ya, yc, by omega, by go_num, HN.out⟩
          case measure => simp [RowKit.intOf]; omega
        · go_simp
          refine hcl.mono ?_
          rintro _ w8 ⟨U, rfl, hV, hb8⟩
          obtain ⟨ta, tc, rfl, _⟩ := hV.row
          replace hb8 : Below wr.heap.size wr w8 := (below_drewN (Below.refl wr.heap.size wr) 1).trans hb8
          have hx18 := (hb8.block _ (heap_lt HX1.out)).trans HX1.out
          have b18 := cell_of_heap hx18 (i := 1) (v := .slice ea (L.length + k) ec) (by rfl)
          refine hK.out _ _ trivial (fun hHeld => ?_)
          clear hK K
          (try simp only [Act.put, List.setIfInBounds_toArray, List.set_cons_zero, List.set_cons_succ])
          refine wpAnyH_ready (rs := [1, 4]) (by kernel_rfl) (by simp) ?_
          refine AllReadyH.cons rfl (fun K hK => ?_) (AllReadyH.cons rfl (fun K hK => ?_) AllReadyH.nil)
          · go_simp
            refine hK.out _ _ trivial (fun hHeld => ?_)
            clear hK K
            (try simp only [Act.put, List.setIfInBounds_toArray, List.set_cons_zero, List.set_cons_succ])
            refine wpAnyH_ready (rs := [4]) (by kernel_rfl) (by simp) ?_
            refine AllReadyH.cons rfl (fun K hK => ?_) AllReadyH.nil
            go_simp
            have b19 := cell_of_heap ((Below.heap_alloc w8 (.cells #[.slice ta x.length tc] 26) _ (heap_lt hx18)).trans hx18) (i := 1) (v := .slice ea (L.length + k) ec) (by rfl)
            refine hK.out _ _ trivial (fun hHeld => ?_)
            clear hK K
            (try simp only [Act.put, List.setIfInBounds_toArray, List.set_cons_zero, List.set_cons_succ])
            refine wpAnyH_ready (rs := [5]) (by kernel_rfl) (by simp) ?_
            refine AllReadyH.cons rfl (fun K hK => ?_) AllReadyH.nil
            refine wp_append_seg (.tmp 61) (.tmp 64) 22 rfl 0 26 i0 (.slice none 0 0) 1 24 Tryz.underlying22 hi hy0 hy1 hy2 rfl (by decide) _ (L.length + k) _ rfl (((Chg.of_below (O := fun _ => False) hb8).row HS1.out (fun _ _ h => h)).alloc _) ⟨w8.heap.size, 0, none⟩ 1 1 [.slice ta x.length tc] rfl rfl (cell_one_new _ _ _) (by simp [Value.oneCell']) (by omega) (by omega) (Nat.zero_le _) ?_
            intro v9 w9 r9 g9
            obtain ⟨ya, yc, rfl, _, _⟩ := RowAt.of_owns r9
            have hx19 := g9.1.obj ((Below.heap_alloc w8 (.cells #[.slice ta x.length tc] 26) _ (heap_lt hx18)).trans hx18) (fun e => by have := (HS2.out _ e).1; omega)
            have b1a := cell_of_heap hx19 (i := 1) (v := .slice ea (L.length + k) ec) (by rfl)
            have b1f := frozen_of_heap (i := 1) hx19
            refine hK.out _ _ trivial (fun hHeld => ?_)
            clear hK K
            (try simp only [Act.put, List.setIfInBounds_toArray, List.set_cons_zero, List.set_cons_succ])
            refine wpAnyH_take (i := 6) (v := ?_) rfl (by kernel_rfl) (by kernel_rfl) (by kernel_rfl) (fun _ _ _ h => h) (Or.inl ⟨by rfl, ?_⟩) hHeld ?_
            rotate_left
            · intro w hSw; (try dsimp only at hSw); go_simp
              all_goals (with_reducible rfl)
            (try simp only [Act.put, List.setIfInBounds_toArray, List.set_cons_zero, List.set_cons_succ])
            refine wpAnyH_ready (rs := [7]) (by kernel_rfl) (by simp) ?_
            refine AllReadyH.cons rfl (fun K hK => ?_) AllReadyH.nil
            go_simp
            refine hK.out _ _ trivial (fun hHeld => ?_)
            clear hK K
            (try simp only [Act.put, List.setIfInBounds_toArray, List.set_cons_zero, List.set_cons_succ])
            refine wpAnyH_done (by kernel_rfl) ?_ _
            have HN := Lib.hid (hnx.out w8 w9 ya ta yc tc hV hb8 r9 g9)
            clear r9 g9 hV b1a b1f hx19 hHeld
            go_wp2
            go_roundw
            case rel => exact ⟨k + 1, ya, yc, by omega, by go_num, HN.out⟩
            case measure => simp [RowKit.intOf]; omega
          · go_simp
            have b19 := cell_of_heap ((Below.heap_alloc w8 (.cells #[.slice ta x.length tc] 26) _ (heap_lt hx18)).trans hx18) (i := 1) (v := .slice ea (L.length + k) ec) (by rfl)
            refine hK.out _ _ trivial (fun hHeld => ?_)
            clear hK K
            (try simp only [Act.put, List.setIfInBounds_toArray, List.set_cons_zero, List.set_cons_succ])
            refine wpAnyH_ready (rs := [1]) (by kernel_rfl) (by simp) ?_
            refine AllReadyH.cons rfl (fun K hK => ?_) AllReadyH.nil
            go_simp
            refine hK.out _ _ trivial (fun hHeld => ?_)
            clear hK K
            (try simp only [Act.put, List.setIfInBounds_toArray, List.set_cons_zero, List.set_cons_succ])
            refine wpAnyH_ready (rs := [5]) (by kernel_rfl) (by simp) ?_
            refine AllReadyH.cons rfl (fun K hK => ?_) AllReadyH.nil
            refine wp_append_seg (.tmp 61) (.tmp 64) 22 rfl 0 26 i0 (.slice none 0 0) 1 24 Tryz.underlying22 hi hy0 hy1 hy2 rfl (by decide) _ (L.length + k) _ rfl (((Chg.of_below (O := fun _ => False) hb8).row HS1.out (fun _ _ h => h)).alloc _) ⟨w8.heap.size, 0, none⟩ 1 1 [.slice ta x.length tc] rfl rfl (cell_one_new _ _ _) (by simp [Value.oneCell']) (by omega) (by omega) (Nat.zero_le _) ?_
            intro v9 w9 r9 g9
            obtain ⟨ya, yc, rfl, _, _⟩ := RowAt.of_owns r9
            have hx19 := g9.1.obj ((Below.heap_alloc w8 (.cells #[.slice ta x.length tc] 26) _ (heap_lt hx18)).trans hx18) (fun e => by have := (HS2.out _ e).1; omega)
            have b1a := cell_of_heap hx19 (i := 1) (v := .slice ea (L.length + k) ec) (by rfl)
            have b1f := frozen_of_heap (i := 1) hx19
            refine hK.out _ _ trivial (fun hHeld => ?_)
            clear hK K
            (try simp only [Act.put, List.setIfInBounds_toArray, List.set_cons_zero, List.set_cons_succ])
            refine wpAnyH_take (i := 6) (v := ?_) rfl (by kernel_rfl) (by kernel_rfl) (by kernel_rfl) (fun _ _ _ h => h) (Or.inl ⟨by rfl, ?_⟩) hHeld ?_
            rotate_left
            · intro w hSw; (try dsimp only at hSw); go_simp
              all_goals (with_reducible rfl)
            (try simp only [Act.put, List.setIfInBounds_toArray, List.set_cons_zero, List.set_cons_succ])
            refine wpAnyH_ready (rs := [7]) (by kernel_rfl) (by simp) ?_
            refine AllReadyH.cons rfl (fun K hK => ?_) AllReadyH.nil
            go_simp
            refine hK.out _ _ trivial (fun hHeld => ?_)
            clear hK K
            (try simp only [Act.put, List.setIfInBounds_toArray, List.set_cons_zero, List.set_cons_succ])
            refine wpAnyH_done (by kernel_rfl) ?_ _
            have HN := Lib.hid (hnx.out w8 w9 ya ta yc tc hV hb8 r9 g9)
            clear r9 g9 hV b1a b1f hx19 hHeld
            go_wp2
            go_roundw
            case rel => exact ⟨k + 1, ya, yc, by omega, by go_num, HN.out⟩
            case measure => simp [RowKit.intOf]; omega
      · obtain rfl : k = M.length := by omega
        rw [List.take_of_length_le (Nat.le_refl _)] at hent
        have hx2 := hcw.obj HX7.out.2.1 (by omega)
        have hx9 := hcw.obj HX7.out.2.2 (by omega)
        have c9 := cell_of_heap hx9 (i := 0) (v := .slice ua en.length uc) (by rfl)
        have d2 := cell_of_heap hx1 (i := 2) (v := .int .i64 g) (by rfl)
        have zz := frozen_of_heap (i := 2) hx1
        have hxA := heap_set_cells (i := 2) (.int .i64 (g + (en.length : Int))) hx1
        have hcA : Chg (· = w.heap.size + 1) wr (wr.setCell ⟨w.heap.size + 1, 2, none⟩ (.int .i64 (g + (en.length : Int)))) := Chg.set _ rfl
        have hwrap := HWR.out (by first | rfl | trivial)
        have HCW := Lib.hid hcw
        have HEN := Lib.hid hent
        have HX2 := Lib.hid hx2
        have hnlt : ¬ ((M.length : Int) < (M.length : Int)) := by omega
        clear hlt hk hMw hcw hent hx1 hx9 hF7 hx2
        obtain ⟨X, hX⟩ : ∃ X, wr.setCell ⟨w.heap.size + 1, 2, none⟩ (.int .i64 (g + (en.length : Int))) = X := ⟨_, rfl⟩
        rw [hX] at hxA hcA
        have HXX := Lib.hid hX
        clear hX
        go_upto_region 21 with (rw [HXX.out])
        clear c9 d2 zz
        have hxA : X.heap[w.heap.size + 1]? = some (.cells #[.int .i64 (n : Int), .slice ea (L.length + M.length) ec, .int .i64 (g + (en.length : Int)), .int .i64 z, .int .i64 y] 42 (0, 0)) := hxA
        have k0 := cell_of_heap hxA (i := 0) (v := .int .i64 (n : Int)) (by rfl)
        have k1 := cell_of_heap hxA (i := 1) (v := .slice ea (L.length + M.length) ec) (by rfl)
        have k2 := cell_of_heap hxA (i := 2) (v := .int .i64 (g + (en.length : Int))) (by rfl)
        have k3 := cell_of_heap hxA (i := 3) (v := .int .i64 z) (by rfl)
        have k4 := cell_of_heap hxA (i := 4) (v := .int .i64 y) (by rfl)
        have hxr := hcA.obj HX2.out (by omega)
        have hwx : Chg (fun x => x = w.heap.size + 1 ∨ (w.heap.size + 2 < x ∧ x ≠ w5.heap.size ∧ ¬ F' x ∧ ¬ G' x)) w7 X := HCW.out.trans hcA (fun x h _ => .inl h)
        have hEX : EntIn (fun x => w.heap.size + 2 < x ∧ x ≠ w5.heap.size ∧ ¬ F' x ∧ ¬ G' x) X (.slice ea (L.length + M.length) ec) (L ++ M) := HEN.out.kept hcA (fun b hb e => by have : b = w.heap.size + 1 := e; omega) (fun _ h => h)
        have hLM : (L ++ M).length = L.length + M.length := by simp
        have HWX := Lib.hid hwx
        have HEX := Lib.hid hEX
        have hfin : ∀ (X' Y : World), Chg (· = w.heap.size + 1) X X' → Chg (· = w.heap.size + 2) X' Y → EntIn (fun b => w.heap.size ≤ b ∧ ¬ F' b ∧ ¬ G' b) Y (.slice ea (L.length + M.length) ec) (L ++ M) ∧ At' F' G' Y ∧ Moved F G F' G' w Y := fun X' Y h1 h2 => by
          have hn1 := HFN.out (w.heap.size + 1) (by omega) (by omega)
          have hn2 := HFN.out (w.heap.size + 2) (by omega) (by omega)
          have hc : Chg (fun x => x = w.heap.size + 1 ∨ x = w.heap.size + 2 ∨ (w.heap.size + 2 < x ∧ x ≠ w5.heap.size ∧ ¬ F' x ∧ ¬ G' x)) w7 Y := ((hwx.mono (fun x h _ => h.imp id .inr)).trans h1 (fun x h _ => .inl h)).trans h2 (fun x h _ => .inr (.inl h))
          refine ⟨((hEX.kept h1 (fun b hb e => by have : b = w.heap.size + 1 := e; omega) (fun _ h => h)).kept h2 (fun b hb e => by have : b = w.heap.size + 2 := e; omega) (fun _ h => h)).mono (fun b hb => ⟨by omega, hb.2.2⟩), HLL.out.2.kept HL7.out.2 hc (fun b h e => ?_) (fun b h e => ?_), HMV.out.andThen (hc.mono (fun x h _ => by omega))⟩
          · rcases e with e | e | e
            · rw [e] at h; exact hn1.1 h
            · rw [e] at h; exact hn2.1 h
            · exact e.2.2.1 h
          · rcases e with e | e | e
            · rw [e] at h; exact hn1.2 h
            · rw [e] at h; exact hn2.2 h
            · exact e.2.2.2 h
        have HFIN := Lib.hid hfin
        have hxB := hxA
        clear hwx hEX hfin hxA
        have r0 := cell_of_heap hxr (i := 0) (v := .int .i64 0) (by rfl)
        have r1 := cell_of_heap hxr (i := 1) (v := .slice none 0 0) (by rfl)
        have r2 := cell_of_heap hxr (i := 2) (v := .int .i64 0) (by rfl)
        have r3 := cell_of_heap hxr (i := 3) (v := .int .i64 0) (by rfl)
        have r4 := cell_of_heap hxr (i := 4) (v := .int .i64 0) (by rfl)
        have z0 := frozen_of_heap (i := 0) hxr
        have z1 := frozen_of_heap (i := 1) hxr
        have z2 := frozen_of_heap (i := 2) hxr
        have z3 := frozen_of_heap (i := 3) hxr
        have z4 := frozen_of_heap (i := 4) hxr
        have HXR := Lib.hid hxr
        clear hxr
        by_cases hle : z ≤ g + (en.length : Int)
        · have e5 : decide (z ≤ g + (en.length : Int)) = true := by simpa using hle
          have m3 := frozen_of_heap (i := 3) hxB
          have m4 := frozen_of_heap (i := 4) hxB
          have HLE := Lib.hid hle
          clear hle
          obtain ⟨X2, hX2, hcX2, hxX2⟩ : ∃ X2, (X.setCell ⟨w.heap.size + 1, 3, none⟩ (.int .i64 (g + (en.length : Int)))).setCell ⟨w.heap.size + 1, 4, none⟩ (.int .i64 0) = X2 ∧ Chg (· = w.heap.size + 1) X X2 ∧ X2.heap[w.heap.size + 1]? = some (.cells #[.int .i64 (n : Int), .slice ea (L.length + M.length) ec, .int .i64 (g + (en.length : Int)), .int .i64 (g + (en.length : Int)), .int .i64 0] 42 (0, 0)) :=
            ⟨_, rfl, (Chg.set (O := (· = w.heap.size + 1)) (a := ⟨w.heap.size + 1, 3, none⟩) _ rfl).trans (Chg.set (O := (· = w.heap.size + 1)) (a := ⟨w.heap.size + 1, 4, none⟩) _ rfl) (fun _ h _ => h), heap_set_cells (i := 4) (.int .i64 0) (heap_set_cells (i := 3) (.int .i64 (g + (en.length : Int))) hxB)⟩
          have HX3 := Lib.hid hX2
          clear hX2
          go_upto_region 23 with (rw [HX3.out])
          clear k0 k1 k2 k3 k4 r0 r1 r2 r3 r4 z0 z1 z2 z3 z4
          have k0 := cell_of_heap hxX2 (i := 0) (v := .int .i64 (n : Int)) (by rfl)
          have k1 := cell_of_heap hxX2 (i := 1) (v := .slice ea (L.length + M.length) ec) (by rfl)
          have k2 := cell_of_heap hxX2 (i := 2) (v := .int .i64 (g + (en.length : Int))) (by rfl)
          have k3 := cell_of_heap hxX2 (i := 3) (v := .int .i64 (g + (en.length : Int))) (by rfl)
          have k4 := cell_of_heap hxX2 (i := 4) (v := .int .i64 0) (by rfl)
          have hxr := hcX2.obj HXR.out (by omega)
          have r0 := cell_of_heap hxr (i := 0) (v := .int .i64 0) (by rfl)
          have r1 := cell_of_heap hxr (i := 1) (v := .slice none 0 0) (by rfl)
          have r2 := cell_of_heap hxr (i := 2) (v := .int .i64 0) (by rfl)
          have r3 := cell_of_heap hxr (i := 3) (v := .int .i64 0) (by rfl)
          have r4 := cell_of_heap hxr (i := 4) (v := .int .i64 0) (by rfl)
          have z0 := frozen_of_heap (i := 0) hxr
          have z1 := frozen_of_heap (i := 1) hxr
          have z2 := frozen_of_heap (i := 2) hxr
          have z3 := frozen_of_heap (i := 3) hxr
          have z4 := frozen_of_heap (i := 4) hxr
          go_wp2
          obtain ⟨Y, hY, hyx, hcY⟩ := set5 (x := .int .i64 (n : Int)) (y := .slice ea (L.length + M.length) ec) (z := .int .i64 (g + (en.length : Int))) (u := .int .i64 (g + (en.length : Int))) (v := .int .i64 0) hxr
          rw [hY]
          have y0 := cell_of_heap hyx (i := 0) (v := .int .i64 (n : Int)) (by rfl)
          have y1 := cell_of_heap hyx (i := 1) (v := .slice ea (L.length + M.length) ec) (by rfl)
          have y2 := cell_of_heap hyx (i := 2) (v := .int .i64 (g + (en.length : Int))) (by rfl)
          have y3 := cell_of_heap hyx (i := 3) (v := .int .i64 (g + (en.length : Int))) (by rfl)
          have y4 := cell_of_heap hyx (i := 4) (v := .int .i64 0) (by rfl)
          refine bodyPost_ret (v := .tuple #[.agg #[.int .i64 (n : Int), .slice ea (L.length + M.length) ec, .int .i64 (g + (en.length : Int)), .int .i64 (g + (en.length : Int)), .int .i64 0], .int .i64 0]) (by simp [results, Tryz.results18, go_sem, y0, y1, y2, y3, y4]) rfl ?_
          have hv : SegV.behind ⟨(n : Int), L, g, z, y⟩ M (en.length : Int) = ⟨(n : Int), L ++ M, g + (en.length : Int), g + (en.length : Int), 0⟩ := by unfold SegV.behind; simp only [if_pos HLE.out]
          rw [hv]
          exact ⟨_, F', G', rfl, (HFIN.out X2 Y hcX2 hcY).1, (HFIN.out X2 Y hcX2 hcY).2.1, (HFIN.out X2 Y hcX2 hcY).2.2⟩
        · have e5 : decide (z ≤ g + (en.length : Int)) = false := by simpa using hle
          have HLE := Lib.hid hle
          have hxr := HXR.out
          clear hle
          go_wp2
          obtain ⟨Y, hY, hyx, hcY⟩ := set5 (x := .int .i64 (n : Int)) (y := .slice ea (L.length + M.length) ec) (z := .int .i64 (g + (en.length : Int))) (u := .int .i64 z) (v := .int .i64 y) hxr
          rw [hY]
          have y0 := cell_of_heap hyx (i := 0) (v := .int .i64 (n : Int)) (by rfl)
          have y1 := cell_of_heap hyx (i := 1) (v := .slice ea (L.length + M.length) ec) (by rfl)
          have y2 := cell_of_heap hyx (i := 2) (v := .int .i64 (g + (en.length : Int))) (by rfl)
          have y3 := cell_of_heap hyx (i := 3) (v := .int .i64 z) (by rfl)
          have y4 := cell_of_heap hyx (i := 4) (v := .int .i64 y) (by rfl)
          refine bodyPost_ret (v := .tuple #[.agg #[.int .i64 (n : Int), .slice ea (L.length + M.length) ec, .int .i64 (g + (en.length : Int)), .int .i64 z, .int .i64 y], .int .i64 0]) (by simp [results, Tryz.results18, go_sem, y0, y1, y2, y3, y4]) rfl ?_
          have hv : SegV.behind ⟨(n : Int), L, g, z, y⟩ M (en.length : Int) = ⟨(n : Int), L ++ M, g + (en.length : Int), z, y⟩ := by unfold SegV.behind; have h9 : ¬ z ≤ g + (en.length : Int) := (by have := HLE.out; omega); simp only [if_neg h9]
          rw [hv]
          exact ⟨_, F', G', rfl, (HFIN.out X Y (Chg.refl _ _) hcY).1, (HFIN.out X Y (Chg.refl _ _) hcY).2.1, (HFIN.out X Y (Chg.refl _ _) hcY).2.2⟩
end

end Go.Proofs.YtlmdpcaikhdenaaGreat
