/- Texts of this claim, one behind the other: Shh, Shi, Shk. -/
import Derived.Test.YtlmdpcaikhdenaaGreatSl26
import Derived.Test.YtlmdpcaikhdenaaGreatSl25
import Derived.RangeFuncBound
import Derived.RangeFuncCalls
import Derived.RangeFuncLeaves
import Derived.RangeFuncNested
import Derived.Shelf.RegionOpen
import Derived.OwnWalkIn
import Derived.TacticsInMore
import Derived.LoopNIn
import Derived.LoopIn
import Derived.Maps.OwnIn
import Derived.Deep.RegionHeld3
set_option linter.unusedSimpArgs false
set_option linter.unusedVariables false
/- Segment: All and its iterator. -/
namespace Go.Proofs.YtlmdpcaikhdenaaGreat
open Go.RowKit Go.Maps Go.Shelf
attribute [local go_sem] Oper.semAt_some

/-- the blocks from lo to hi are as they were -/
def KpB (lo hi : Nat) (W W' : World) : Prop := W.heap.size ≤ W'.heap.size ∧ ∀ b, lo ≤ b → b < hi → W'.heap[b]? = W.heap[b]?
theorem KpB.refl (lo hi : Nat) (A : World) : KpB lo hi A A := ⟨Nat.le_refl _, fun _ _ _ => rfl⟩
theorem KpB.trans {lo hi : Nat} {A B C : World} (h : KpB lo hi A B) (k : KpB lo hi B C) : KpB lo hi A C := ⟨Nat.le_trans h.1 k.1, fun b h1 h2 => (k.2 b h1 h2).trans (h.2 b h1 h2)⟩
theorem KpB.of_below {lo hi : Nat} {A B : World} (h : Below hi A B) : KpB lo hi A B := ⟨h.size, fun b _ h2 => h.block b h2⟩
theorem KpB.of_below' {lo hi : Nat} {A B : World} (h : Below A.heap.size A B) (hh : hi ≤ A.heap.size) : KpB lo hi A B := ⟨h.size, fun b _ h2 => h.block b (by omega)⟩
theorem KpB.of_chg {lo hi : Nat} {O : Nat → Prop} {A B : World} (h : Chg O A B) (hO : ∀ b, O b → b < lo ∨ hi ≤ b) (hh : hi ≤ A.heap.size) : KpB lo hi A B := ⟨h.size, fun b h1 h2 => h.block b (by omega) (fun ho => by have := hO b ho; omega)⟩
theorem ownsRow_keep {w w' : World} {base : Nat} {e : TypeId} {size : Nat} {v : Value} {n : Nat} {xs : List Value} (h : w.ownsRow base e size v n xs) (hk : ∀ g, v.ownBlock = some g → w'.heap[g]? = w.heap[g]?) : w'.ownsRow base e size v n xs := by
  obtain ⟨h1, h2⟩ := h
  refine ⟨h1, h2.imp id ?_⟩
  rintro ⟨g, cap, cur, rfl, h3, h4, h5⟩
  exact ⟨g, cap, cur, rfl, h3, (hk g rfl).trans h4, h5⟩
theorem BytesIn.keep {w w' : World} {R : Nat → Prop} {v : Value} {l : List UInt8} (h : BytesIn w R v l) (hk : ∀ b, R b → w'.heap[b]? = w.heap[b]?) : BytesIn w' R v l := by
  obtain ⟨a, c, rfl, k1, k2, k3, k4, k5, k6⟩ := h
  have hr := ownsRow_keep (w' := w') k6 (fun g hg => by
    rcases k6.2 with ⟨e2, _⟩ | ⟨g2, cap, cur, e2, _⟩
    · rw [e2] at hg; cases hg
    · rw [e2] at hg; cases hg
      simp only [Value.slice.injEq] at e2
      exact hk _ (k4 _ e2.1))
  obtain ⟨a', c', e, k7, _⟩ := RowAt.of_owns hr
  cases e
  exact ⟨a, c, rfl, k1, k2, k7, k4, k5, hr⟩
theorem EntIn.keep {R : Nat → Prop} {w w' : World} {v : Value} {L : List (List UInt8)} (h : EntIn R w v L) (hk : ∀ b, R b → w'.heap[b]? = w.heap[b]?) : EntIn R w' v L := by
  obtain ⟨vs, h1, h2, h3, h4⟩ := h
  exact ⟨vs, ownsRow_keep h1 (fun g hg => hk g (h2 g hg)), h2, h3, fun i x l hx hl => (h4 i x l hx hl).keep hk⟩

theorem alloc_at3 (w : World) (a b c : Obj) : (((w.alloc a).alloc b).alloc c).heap[w.heap.size]? = some a ∧ (((w.alloc a).alloc b).alloc c).heap[w.heap.size + 1]? = some b ∧ (((w.alloc a).alloc b).alloc c).heap[w.heap.size + 2]? = some c := by
  have e1 : (w.alloc a).heap.size = w.heap.size + 1 := by simp
  have e2 : ((w.alloc a).alloc b).heap.size = w.heap.size + 2 := by simp
  refine ⟨?_, ?_, ?_⟩
  · exact (Below.heap_alloc _ _ _ (by omega)).trans ((Below.heap_alloc _ _ _ (by omega)).trans (World.alloc_heap_new w a))
  · have := World.alloc_heap_new (w.alloc a) b
    rw [e1] at this
    exact (Below.heap_alloc _ _ _ (by omega)).trans this
  · have := World.alloc_heap_new ((w.alloc a).alloc b) c
    rwa [e2] at this
theorem alloc_at4 (w : World) (a b c d : Obj) : ((((w.alloc a).alloc b).alloc c).alloc d).heap[w.heap.size]? = some a ∧ ((((w.alloc a).alloc b).alloc c).alloc d).heap[w.heap.size + 1]? = some b ∧ ((((w.alloc a).alloc b).alloc c).alloc d).heap[w.heap.size + 2]? = some c ∧ ((((w.alloc a).alloc b).alloc c).alloc d).heap[w.heap.size + 3]? = some d := by
  obtain ⟨h1, h2, h3⟩ := alloc_at3 w a b c
  have e3 : (((w.alloc a).alloc b).alloc c).heap.size = w.heap.size + 3 := by simp
  refine ⟨(Below.heap_alloc _ _ _ (by omega)).trans h1, (Below.heap_alloc _ _ _ (by omega)).trans h2, (Below.heap_alloc _ _ _ (by omega)).trans h3, ?_⟩
  have := World.alloc_heap_new (((w.alloc a).alloc b).alloc c) d
  rwa [e3] at this
/-- All: the entries are copied into a box -/
def AllPost (w : World) (f g z y : Int) (L : List (List UInt8)) (e : Ending) (w' : World) : Prop :=
  ∃ es, e = .returned (.func (.func 72) #[] #[.pointer (some ⟨w.heap.size, 0, none⟩)]) ∧ w'.heap[w.heap.size]? = some (.cells #[.int .i64 f, es, .int .i64 g, .int .i64 z, .int .i64 y] 42 (0, 0)) ∧ EntIn (fun b => w.heap.size < b ∧ b < w'.heap.size) w' es L ∧ Below w.heap.size w w'
set_option maxRecDepth 100000 in
set_option maxHeartbeats 4000000 in
theorem all_any {w : World} {a : Option Addr} {c : Nat} {L : List (List UInt8)} {f g z y : Int} (h : EntsAt w a L) (hl : L.length ≤ 1000000000) (hb : ∀ e ∈ L, e.length ≤ 140737488355328) :
    Calls Tryz.prog 36 #[.agg #[.int .i64 f, .slice a L.length c, .int .i64 g, .int .i64 z, .int .i64 y]] w (AllPost w f g z y L) := by
  obtain ⟨w1, hw1⟩ : ∃ w1, w.alloc (.cells #[.int .i64 f, .slice a L.length c, .int .i64 g, .int .i64 z, .int .i64 y] 42) = w1 := ⟨_, rfl⟩
  have hb1 : Below w.heap.size w w1 := by rw [← hw1]; exact below_alloc w _
  have hz1 : w1.heap.size = w.heap.size + 1 := by rw [← hw1]; simp
  have hx1 : w1.heap[w.heap.size]? = some (.cells #[.int .i64 f, .slice a L.length c, .int .i64 g, .int .i64 z, .int .i64 y] 42 (0, 0)) := by rw [← hw1]; exact World.alloc_heap_new w _
  have hC := copied_any (w := w1) (c := c) (f := f) (g := g) (z := z) (y := y) (h.below hb1) hl hb
  have p0 := cell_of_heap hx1 (i := 0) (v := .int .i64 f) (by rfl)
  have p1 := cell_of_heap hx1 (i := 1) (v := .slice a L.length c) (by rfl)
  have p2 := cell_of_heap hx1 (i := 2) (v := .int .i64 g) (by rfl)
  have p3 := cell_of_heap hx1 (i := 3) (v := .int .i64 z) (by rfl)
  have p4 := cell_of_heap hx1 (i := 4) (v := .int .i64 y) (by rfl)
  have HW := Lib.hid hw1
  have HZ := Lib.hid hz1
  have HX := Lib.hid hx1
  clear hw1 hz1 hx1 h hb
  go_enter Tryz.func36, Tryz.ntmps36
  go_wp2_with (first
    | rw [HW.out]
    | (go_at_call 46; refine hC.mono ?_; rintro _ w2 ⟨es, rfl, hE, hb2⟩; obtain ⟨xa, xc, rfl⟩ := hE.slice; have hx2 := (hb2.block _ (heap_lt HX.out)).trans HX.out; have q0 := cell_of_heap hx2 (i := 0) (v := .int .i64 f) (by rfl); have q1 := cell_of_heap hx2 (i := 1) (v := .slice a L.length c) (by rfl); have q2 := cell_of_heap hx2 (i := 2) (v := .int .i64 g) (by rfl); have q3 := cell_of_heap hx2 (i := 3) (v := .int .i64 z) (by rfl); have q4 := cell_of_heap hx2 (i := 4) (v := .int .i64 y) (by rfl); have z0 := frozen_of_heap (i := 0) hx2; have z1 := frozen_of_heap (i := 1) hx2; have z2 := frozen_of_heap (i := 2) hx2; have z3 := frozen_of_heap (i := 3) hx2; have z4 := frozen_of_heap (i := 4) hx2))
  obtain ⟨Y, hY, hyx, hcY⟩ := set5 (x := .int .i64 f) (y := .slice xa L.length xc) (z := .int .i64 g) (u := .int .i64 z) (v := .int .i64 y) hx2
  rw [hY]
  go_wp2
  go_ret
  have hzz := HZ.out
  have hs2 := hb2.size
  have hE2 : EntIn (fun b => w1.heap.size ≤ b) Y (.slice xa L.length xc) L := hE.kept hcY (fun b hb e => by omega) (fun _ h => h)
  refine ⟨_, rfl, hyx, ?_, Chg.ret (hb1.trans (hb2.mono hb1.size)) (Nat.le_refl _) hcY⟩
  obtain ⟨vs, k1, k2, k3, k4⟩ := hE2
  refine ⟨vs, k1, fun b hb => ⟨by have := k2 b hb; omega, (k1.lt b hb).2⟩, k3, fun i x l hx hl => ?_⟩
  obtain ⟨xa, xc, rfl, q1, q2, q3, q4, q5, q6⟩ := k4 i x l hx hl
  refine ⟨xa, xc, rfl, q1, q2, q3, fun y e => ⟨by have := q4 y e; omega, ?_⟩, q5, q6⟩
  rcases q6.2 with ⟨e2, _⟩ | ⟨g2, cap, cur, e2, _, hg2, _⟩
  · simp only [Value.slice.injEq] at e2
    rw [e2.1] at e; cases e
  · simp only [Value.slice.injEq] at e2
    rw [e2.1] at e; cases e
    exact heap_lt hg2

/-- how many entries are told -/
def tellsN (f : Int) (n : Nat) : Nat := if 0 ≤ f ∧ f ≤ 4611686018427387904 then min n (4611686018427387905 - f).toNat else 0
def encE (x : Int × Value) : Array Value := #[.int .i64 x.1, x.2]
/-- an item: the next number, and the entry in new memory -/
def YE (f : Int) (L : List (List UInt8)) (pre : List (Int × Value)) (x : Int × Value) (W0 W1 : World) : Prop :=
  pre.length < tellsN f L.length ∧ x.1 = f + pre.length ∧ (∃ e, L[pre.length]? = some e ∧ BytesIn W1 (fun b => W0.heap.size ≤ b) x.2 e) ∧ Below W0.heap.size W0 W1
theorem YE.grown {f : Int} {L : List (List UInt8)} {pre : List (Int × Value)} {x : Int × Value} {W0 W1 : World} (h : YE f L pre x W0 W1) : W0.grownBy W1 none := Below.grownBy h.2.2.2
set_option maxRecDepth 100000 in
set_option maxHeartbeats 8000000 in
theorem all1_seq (n : Nat) (hn : 1 ≤ n) {w : World} {f : Int} (hf0 : 0 ≤ f) (hf1 : f ≤ 4611686018427387904) {bd lo hi : Nat} {es : Value} {g z y : Int} {L : List (List UInt8)}
    (hx : w.heap[bd]? = some (.cells #[.int .i64 f, es, .int .i64 g, .int .i64 z, .int .i64 y] 42 (0, 0))) (hbl : lo ≤ bd ∧ bd < hi) (hE : EntIn (fun b => lo ≤ b ∧ b < hi) w es L) (hh : hi ≤ w.heap.size) (hl : L.length ≤ 1000000000) (hb : ∀ e ∈ L, e.length ≤ 140737488355328) :
    SeqY Fence.wide n Tryz.prog 72 #[.pointer (some ⟨bd, 0, none⟩)] encE (YE f L) (KpB lo hi) (fun xs => xs.length = tellsN f L.length) (fun pre => pre.length ≤ tellsN f L.length) w := by
  intro l J Jx W hW hJ hY h0
  have hx1 := (hW.block _ (heap_lt hx)).trans hx
  have hE1 : EntIn (fun b => lo ≤ b ∧ b < hi) W es L := hE.below hW
  obtain ⟨ea, ec, rfl⟩ := hE1.slice
  have c0 := cell_of_heap hx1 (i := 0) (v := .int .i64 f) (by rfl)
  have c1 := cell_of_heap hx1 (i := 1) (v := .slice ea L.length ec) (by rfl)
  have ht : tellsN f L.length = min L.length (4611686018427387905 - f).toNat := by unfold tellsN; rw [if_pos ⟨hf0, hf1⟩]
  have HT := Lib.hid ht
  have hhW : hi ≤ W.heap.size := Nat.le_trans hh hW.size
  have g1 : decide (f < 0) = false := by simpa using hf0
  have g2 : decide (4611686018427387904 < f) = false := by simpa using hf1
  refine callsIn_of_wp Tryz.func72 rfl trivial ?_ rfl
  simp only [Tryz.ntmps72, List.size_toArray, List.length_cons, List.length_nil, Nat.reduceAdd, Nat.reduceSub, Array.replicate_succ, Array.replicate_zero, List.push_toArray, List.append_toArray, List.nil_append, List.cons_append]
  have HY := Lib.hid hY
  have HE := Lib.hid hE1
  have HX := Lib.hid hx1
  have HLB := Lib.hid hb
  have hfC : Fence.wide.fn 48 := trivial
  clear hY ht hx hE hE1 hb hx1
  gi_wp2
  clear c0 c1
  gi_loopw [17] (fun i wr => ∃ (k : Nat) (xs : List (Int × Value)), k ≤ tellsN f L.length ∧ xs.length = k ∧ i = .int .i64 k ∧ J xs wr ∧ KpB lo hi W wr) (fun i _ => L.length - (RowKit.intOf i).toNat)
  case atStart => exact ⟨0, [], Nat.zero_le _, rfl, rfl, h0, KpB.refl _ _ _⟩
  case round =>
    obtain ⟨k, xs, hk, hxl, rfl, hJs, hkp⟩ := hrel
    have hT := HT.out
    have hxw := (hkp.2 bd hbl.1 hbl.2).trans HX.out
    have c0 := cell_of_heap hxw (i := 0) (v := .int .i64 f) (by rfl)
    have hs0 : hi ≤ wr.heap.size := Nat.le_trans hhW hkp.1
    by_cases hlt : k < L.length
    · obtain ⟨x, hx⟩ : ∃ x, L[k]? = some x := ⟨L[k]'hlt, by simp⟩
      have hEw := HE.out.keep (fun b hb => hkp.2 b hb.1 hb.2)
      obtain ⟨ea', ec', e1, hat⟩ := hEw.at_
      cases e1
      obtain ⟨b1, o1, rfl, cc⟩ := hat (fun e => by rw [e] at hlt; simp at hlt)
      obtain ⟨ua, uc, u1, r1, _, un⟩ := cc k x hx
      have hxm : x ∈ L := List.mem_of_getElem? hx
      have j0 : (k : Int) < (L.length : Int) := by omega
      have j1 : (0 : Int) ≤ (k : Int) := by omega
      have hnk : IntKind.i64.wrap (f + (k : Int)) = f + (k : Int) := Go.IntWalk.i64_in _ (by omega)
      by_cases hmo : 4611686018427387904 < f + (k : Int)
      · have g3 : decide (4611686018427387904 < f + (k : Int)) = true := by simpa using hmo
        have hkt : k = tellsN f L.length := by omega
        have HK := Lib.hid hkt
        have HJ := Lib.hid hJs
        have HXL := Lib.hid hxl
        clear hmo hkt cc hx hEw hat hJs hxl hT
        gi_wp2
        refine ⟨fun f h => (by cases h), ?_⟩
        gi_wp2
        exact bodyPost_ret (results_none rfl _ _ _) rfl ⟨⟨_, rfl⟩, .inl ⟨xs, by rw [HXL.out]; exact HK.out, HJ.out⟩⟩
      · have g3 : decide (4611686018427387904 < f + (k : Int)) = false := by simpa using hmo
        have hkt : k < tellsN f L.length := by omega
        have hcl := (callsIn_wide (n := n - 1)).2 (bclone_any (c := uc) r1 un (HLB.out x hxm))
        have HYE : Hid (∀ W2 U, BytesIn W2 (fun b => wr.heap.size ≤ b) U x → Below wr.heap.size wr W2 → YE f L xs (f + (k : Int), U) wr W2) := Lib.hid (fun W2 U hU hb2 => ⟨by rw [hxl]; exact hkt, by rw [hxl], ⟨x, by rw [hxl]; exact hx, hU⟩, hb2⟩)
        have HJ := Lib.hid hJs
        have HXL := Lib.hid hxl
        have HKT := Lib.hid hkt
        have HKP := Lib.hid hkp
        clear hmo hkt cc hx hEw hat hJs hxl r1 hxm hkp hT hk
        gi_wp2_with (first
          | (gi_at_call 48; refine hcl.mono ?_; rintro _ W2 ⟨U, rfl, hU, hb2⟩; obtain ⟨ya, yc, rfl, _⟩ := hU.row; obtain ⟨fn, tmps, assign, body, hy, hR⟩ := HY.out xs (f + (k : Int), .slice ya x.length yc) wr W2 HJ.out (HYE.out W2 _ hU hb2); simp only [encE] at hy)
          | (refine hR.mono ?_; rintro e3 W3 hcase; obtain ⟨bq, rfl, hq⟩ : ∃ bq, e3 = .returned (.bool bq) ∧ ((bq = true ∧ J (xs ++ [(f + (k : Int), .slice ya x.length yc)]) W3 ∧ KpB lo hi W2 W3) ∨ (bq = false ∧ Jx (xs ++ [(f + (k : Int), .slice ya x.length yc)]) W3)) := by rcases hcase with ⟨h1, h2, h3⟩ | ⟨h1, h2⟩; exact ⟨true, h1, .inl ⟨rfl, h2, h3⟩⟩; exact ⟨false, h1, .inr ⟨rfl, h2⟩⟩))
        all_goals first
          | exact bodyPost_ret (results_none rfl _ _ _) rfl ⟨⟨_, rfl⟩, .inr ⟨xs ++ [(f + (k : Int), .slice ya x.length yc)], by rw [List.length_append, HXL.out]; exact HKT.out, by
              rcases hq with ⟨h, _⟩ | ⟨_, h⟩
              · subst h; simp_all
              · exact h⟩⟩
          | (obtain ⟨h1, h2⟩ : J (xs ++ [(f + (k : Int), .slice ya x.length yc)]) W3 ∧ KpB lo hi W2 W3 := by
              rcases hq with ⟨_, h1, h2⟩ | ⟨h, _⟩
              · exact ⟨h1, h2⟩
              · subst h; simp_all
             exact ⟨⟨k + 1, _, HKT.out, by rw [List.length_append, HXL.out]; rfl, by go_num, h1, (HKP.out.trans (KpB.of_below' hb2 hs0)).trans h2⟩, by simp [RowKit.intOf]; omega⟩)
    · have hkt : k = tellsN f L.length := by omega
      have HK := Lib.hid hkt
      have HJ := Lib.hid hJs
      have hkl : k = L.length := by omega
      have j2 : ¬ ((k : Int) < (L.length : Int)) := by omega
      clear hkt hJs hT hk hkl hlt
      gi_wp2
      go_end0
      exact ⟨⟨_, rfl⟩, .inl ⟨xs, by rw [hxl]; exact HK.out, HJ.out⟩⟩

end Go.Proofs.YtlmdpcaikhdenaaGreat
/- Segment: Scan over the program's disk. -/
namespace Go.Proofs.YtlmdpcaikhdenaaGreat
open Go.RowKit Go.Maps

/-- a segment as it is told -/
structure SegV where
  first : Int
  entries : List (List UInt8)
  good : Int
  size : Int
  why : Int
def SegV.none : SegV := ⟨0, [], 0, 0, 0⟩
def SegV.cells (v : SegV) (es : Value) : Array Value := #[.int .i64 v.first, es, .int .i64 v.good, .int .i64 v.size, .int .i64 v.why]
/-- the segment of a file's bytes -/
def SegV.of (f : Nat) (b : List UInt8) : SegV := ⟨(f : Int), (segL f b).entries, ((segL f b).good : Int), (b.length : Int), ((segL f b).why : Int)⟩
/-- what a name leads to -/
def DSt.text (s : DSt) (k : List UInt8) : Option (List UInt8) := (nlFind s.names k).map s.stands
def scanN (s : DSt) (f : Nat) (k : List UInt8) : SegV × Nat := match s.text k with
  | none => (SegV.none, 7)
  | some b => (SegV.of f b, 0)
theorem size_text (s : DSt) (k : List UInt8) : s.size k = match s.text k with | none => (0, 7) | some b => (b.length, 0) := by
  unfold DSt.size DSt.text
  cases nlFind s.names k <;> rfl
theorem read_text {s : DSt} {k b : List UInt8} (h : s.text k = some b) : s.read k 0 (b.length : Int) = (b, 0) := by
  unfold DSt.text at h
  unfold DSt.read
  cases hf : nlFind s.names k with
  | none => rw [hf] at h; cases h
  | some g =>
    rw [hf] at h
    simp only [Option.map_some, Option.some.injEq] at h
    simp only [h]
    rw [if_neg (by omega), if_neg (by omega)]
    simp
theorem text_le {s : DSt} {k b : List UInt8} {N : Nat} (hok : s.Ok N) (h : s.text k = some b) : b.length ≤ maxFile := by
  unfold DSt.text at h
  cases hf : nlFind s.names k with
  | none => rw [hf] at h; cases h
  | some g =>
    rw [hf] at h
    simp only [Option.map_some, Option.some.injEq] at h
    rw [← h]; exact hok.stands_le g
/-- step, of a function that takes a name -/
theorem step_fn {w : World} {f : Int} (h0 : 0 ≤ f) (h1 : f ≤ 4611686018427387904) {N : FuncId} {caps : Array Value} (henter : ∀ args w, (callFunc N args).run Tryz.prog w = .ok (.enter N args) w) (v : Value) {Q : World → Ending → World → Prop}
    (hret : ∀ W e w', Q W e w' → ∃ x : Int, e = .returned (.int .i64 x)) (hc : ∀ W, Below w.heap.size w W → Calls Tryz.prog N (#[.string ⟨(segName f).toArray⟩] ++ caps) W (Q W)) :
    Calls Tryz.prog 45 #[v, .int .i64 f, .func (.func N) #[] caps] w fun e w' => ∃ W, Below w.heap.size w W ∧ Q W e w' := by
  have hn := sname_any h0 (by omega) w
  have HC := Lib.hid hc
  have g1 : decide (4611686018427387904 < f) = false := by simp; omega
  clear hc h0 h1
  generalize segName f = nm at *
  go_enter Tryz.func45, Tryz.ntmps45
  go_wp2_with (first | (go_at_call 84; refine hn.mono ?_; rintro _ w1 ⟨rfl, hb1⟩; have hcl := HC.out w1 hb1) | (refine hcl.mono ?_; rintro e w2 hq; obtain ⟨x, rfl⟩ := hret _ _ _ hq))
  go_ret
  exact ⟨w1, hb1, hq⟩
section
variable {F G : Nat → Prop} {w : World} {p : Nat} {s : DSt} {N : Nat}
set_option maxRecDepth 100000 in
set_option maxHeartbeats 4000000 in
theorem scan1_any (h : One F G w p s) (hok : s.Ok N) (hN : N < maxList) {f : Nat} (hf : f ≤ 4611686018427387904) {nm : List UInt8} (hnm : nm.length ≤ maxLen) {td tf ts : Nat} {e1 e2 : TypeId}
    (htd : w.heap[td]? = some (.cells #[devD p] e1 (0, 0))) (htf : w.heap[tf]? = some (.cells #[.int .i64 (f : Int)] e2 (0, 0))) (hts : w.heap[ts]? = some (.cells #[.int .i64 0, .slice none 0 0, .int .i64 0, .int .i64 0, .int .i64 0] 42 (0, 0))) :
    Calls Tryz.prog 51 #[.string ⟨nm.toArray⟩, .pointer (some ⟨td, 0, none⟩), .pointer (some ⟨tf, 0, none⟩), .pointer (some ⟨ts, 0, none⟩)] w fun e w' => e = .returned (.int .i64 ((scanN s f nm).2 : Int)) ∧
      ∃ es, w'.heap[ts]? = some (.cells ((scanN s f nm).1.cells es) 42 (0, 0)) ∧ EntIn (fun b => w.heap.size ≤ b) w' es (scanN s f nm).1.entries ∧ Chg (· = ts) w w' := by
  have hmf : maxFile = 1099511627776 := rfl
  have hS := (h.has).size hnm hok hN
  rw [size_text] at hS
  have c1 := cell_of_heap htd (i := 0) (v := devD p) (by rfl)
  unfold devD at c1
  cases ht : s.text nm with
  | none =>
    have he : scanN s f nm = (SegV.none, 7) := by unfold scanN; rw [ht]
    rw [ht] at hS
    rw [he]
    have HT := Lib.hid hts
    clear ht he hts htf htd h hf
    go_enter Tryz.func51, Tryz.ntmps51
    go_wp2_with (go_at_call 224; refine hS.mono ?_; rintro _ w2 ⟨rfl, hb2⟩)
    go_ret
    exact ⟨rfl, _, (hb2.block _ (heap_lt HT.out)).trans HT.out, EntIn.nil _ _, Chg.of_below hb2⟩
  | some b =>
    have he : scanN s f nm = (SegV.of f b, 0) := by unfold scanN; rw [ht]
    have hbl := text_le hok ht
    have hrd := fun W (hW : Below w.heap.size w W) => (h.below hW).has.read (at_ := 0) (n := (b.length : Int)) hnm (by omega) hok hN
    rw [read_text ht] at hrd
    rw [ht] at hS
    rw [he]
    have HR := Lib.hid hrd
    have HT := Lib.hid hts
    have HD := Lib.hid htd
    have HF := Lib.hid htf
    clear ht he hts htf htd h hrd
    simp only at hS
    go_enter Tryz.func51, Tryz.ntmps51
    go_wp2_with (first
      | (go_at_call 224; refine hS.mono ?_; rintro _ w2 ⟨rfl, hb2⟩; have hR2 := HR.out w2 hb2; have c2 := cell_of_heap ((hb2.block _ (heap_lt HD.out)).trans HD.out) (i := 0) (v := .iface 45 (.pointer (some ⟨p, 0, none⟩))) (by rfl))
      | (go_at_call 222; refine hR2.mono ?_; rintro _ w3 ⟨U, rfl, hU, hb3⟩; obtain ⟨ua, uc, rfl, hle, hnl, hrow⟩ := hU.row; have hb23 := hb2.trans (hb3.mono hb2.size); have c3 := cell_of_heap ((hb23.block _ (heap_lt HF.out)).trans HF.out) (i := 0) (v := .int .i64 (f : Int)) (by rfl); have hD3 := decode_any (w := w3) hf hrow hnl hle (by omega))
      | (go_at_call 14; refine hD3.mono ?_; rintro _ w4 ⟨es, rfl, hE, hb4⟩; obtain ⟨xa, xc, rfl⟩ := hE.slice; have hb24 := hb23.trans (hb4.mono hb23.size); have hx4 := (hb24.block _ (heap_lt HT.out)).trans HT.out; have q0 := cell_of_heap hx4 (i := 0) (v := .int .i64 0) (by rfl); have q1 := cell_of_heap hx4 (i := 1) (v := .slice none 0 0) (by rfl); have q2 := cell_of_heap hx4 (i := 2) (v := .int .i64 0) (by rfl); have q3 := cell_of_heap hx4 (i := 3) (v := .int .i64 0) (by rfl); have q4 := cell_of_heap hx4 (i := 4) (v := .int .i64 0) (by rfl); have z0 := frozen_of_heap (i := 0) hx4; have z1 := frozen_of_heap (i := 1) hx4; have z2 := frozen_of_heap (i := 2) hx4; have z3 := frozen_of_heap (i := 3) hx4; have z4 := frozen_of_heap (i := 4) hx4))
    obtain ⟨Y, hY, hyx, hcY⟩ := set5 (x := .int .i64 (f : Int)) (y := .slice xa (segL f b).entries.length xc) (z := .int .i64 ((segL f b).good : Int)) (u := .int .i64 (b.length : Int)) (v := .int .i64 ((segL f b).why : Int)) hx4
    rw [hY]
    go_ret
    have hlt := heap_lt HT.out
    have hs3 := hb23.size
    exact ⟨rfl, _, hyx, hE.kept hcY (fun x hx e => by omega) (fun x hx => by omega), (Chg.of_below hb24).trans hcY (fun _ h _ => h)⟩
end
def scanD (s : DSt) (f : Int) : SegV × Nat := if f < 0 ∨ 4611686018427387904 < f then (SegV.none, 4) else scanN s f.toNat (segName f)
section
variable {F G : Nat → Prop} {w : World} {p : Nat} {s : DSt} {N : Nat}
/-- what Scan answers -/
def ScanPost (w : World) (r : SegV × Nat) (e : Ending) (w' : World) : Prop :=
  ∃ es, e = .returned (.tuple #[.agg (r.1.cells es), .int .i64 (r.2 : Int)]) ∧ EntIn (fun b => w.heap.size ≤ b) w' es r.1.entries ∧ Below w.heap.size w w'
set_option maxRecDepth 100000 in
set_option maxHeartbeats 8000000 in
theorem scan_any (h : One F G w p s) (hok : s.Ok N) (hN : N < maxList) {f : Int} (h64 : f ≤ 9223372036854775807) :
    Calls Tryz.prog 21 #[devD p, .int .i64 f] w (ScanPost w (scanD s f)) := by
  obtain ⟨w1, hw1⟩ : ∃ w1, (((w.alloc (.cells #[devD p] 101)).alloc (.cells #[.int .i64 f] 2)).alloc (.cells #[.int .i64 0, .slice none 0 0, .int .i64 0, .int .i64 0, .int .i64 0] 42)).alloc (.cells #[.int .i64 0, .slice none 0 0, .int .i64 0, .int .i64 0, .int .i64 0] 42) = w1 := ⟨_, rfl⟩
  have hb1 : Below w.heap.size w w1 := by rw [← hw1]; exact (((below_alloc w _).alloc (by simp) _).alloc (by simp; omega) _).alloc (by simp; omega) _
  have hz1 : w1.heap.size = w.heap.size + 4 := by rw [← hw1]; simp
  have hx := alloc_at4 w (.cells #[devD p] 101) (.cells #[.int .i64 f] 2) (.cells #[.int .i64 0, .slice none 0 0, .int .i64 0, .int .i64 0, .int .i64 0] 42) (.cells #[.int .i64 0, .slice none 0 0, .int .i64 0, .int .i64 0, .int .i64 0] 42)
  rw [hw1] at hx
  obtain ⟨hx0, hx1, hx2, hx3⟩ := hx
  have c0 := cell_of_heap hx0 (i := 0) (v := devD p) (by rfl)
  unfold devD at c0
  have c1 := cell_of_heap hx1 (i := 0) (v := .int .i64 f) (by rfl)
  have hO1 := h.below hb1
  obtain ⟨r, hr⟩ : ∃ r, scanD s f = r := ⟨_, rfl⟩
  have hS : Calls Tryz.prog 45 #[devD p, .int .i64 f, .func (.func 51) #[] #[.pointer (some ⟨w.heap.size, 0, none⟩), .pointer (some ⟨w.heap.size + 1, 0, none⟩), .pointer (some ⟨w.heap.size + 3, 0, none⟩)]] w1 fun e w' => e = .returned (.int .i64 (r.2 : Int)) ∧
      ∃ es, w'.heap[w.heap.size + 3]? = some (.cells (r.1.cells es) 42 (0, 0)) ∧ EntIn (fun b => w.heap.size + 4 ≤ b) w' es r.1.entries ∧ Chg (· = w.heap.size + 3) w1 w' := by
    by_cases hf : f < 0 ∨ 4611686018427387904 < f
    · have he : r = (SegV.none, 4) := by rw [← hr]; unfold scanD; rw [if_pos hf]
      rw [he]
      exact (step_bad hf h64 _ _).mono fun e w' ⟨k1, k2⟩ => ⟨k1, _, (k2.block _ (heap_lt hx3)).trans hx3, EntIn.nil _ _, Chg.of_below k2⟩
    · have hf0 : 0 ≤ f := by omega
      obtain ⟨n, rfl⟩ := Int.eq_ofNat_of_zero_le hf0
      have he : r = scanN s n (segName n) := by rw [← hr]; unfold scanD; rw [if_neg hf]; rfl
      rw [he]
      refine (step_fn hf0 (by omega) (N := 51) (enters_of Tryz.func51 (by kernel_rfl) rfl) _ (Q := fun W e w' => e = .returned (.int .i64 ((scanN s n (segName n)).2 : Int)) ∧
        ∃ es, w'.heap[w.heap.size + 3]? = some (.cells ((scanN s n (segName n)).1.cells es) 42 (0, 0)) ∧ EntIn (fun b => W.heap.size ≤ b) w' es (scanN s n (segName n)).1.entries ∧ Chg (· = w.heap.size + 3) W w') (fun W e w' hq => ⟨_, hq.1⟩) (fun W hW => ?_)).mono ?_
      · exact scan1_any (hO1.below hW) hok hN (by omega) (by rw [segName_len]; decide) ((hW.block _ (heap_lt hx0)).trans hx0) ((hW.block _ (heap_lt hx1)).trans hx1) ((hW.block _ (heap_lt hx3)).trans hx3)
      · rintro e w' ⟨W, hW, k1, es, k2, k3, k4⟩
        have := hW.size
        exact ⟨k1, es, k2, k3.kept (Chg.refl (fun _ => False) _) (fun _ _ h => h) (fun x hx => by omega), (Chg.of_below hW).trans k4 (fun _ h _ => h)⟩
  obtain ⟨⟨vf, vl, vg, vz, vy⟩, rn⟩ := r
  simp only [SegV.cells] at hS
  have HW := Lib.hid hw1
  have HZ := Lib.hid hz1
  have HX2 := Lib.hid hx2
  have HB1 := Lib.hid hb1
  have HR := Lib.hid hr
  clear hw1 hz1 hx0 hx1 hx2 hx3 hb1 hr h hok hN hO1
  unfold devD at *
  go_enter Tryz.func21, Tryz.ntmps21
  go_wp2_with (first
    | rw [HW.out]
    | (go_at_call 45; refine hS.mono ?_; rintro _ w2 ⟨rfl, es, hx3, hE, hc2⟩; obtain ⟨xa, xc, rfl⟩ := hE.slice; have d0 := cell_of_heap hx3 (i := 0) (v := .int .i64 vf) (by rfl); have d1 := cell_of_heap hx3 (i := 1) (v := .slice xa vl.length xc) (by rfl); have d2 := cell_of_heap hx3 (i := 2) (v := .int .i64 vg) (by rfl); have d3 := cell_of_heap hx3 (i := 3) (v := .int .i64 vz) (by rfl); have d4 := cell_of_heap hx3 (i := 4) (v := .int .i64 vy) (by rfl); have hx2 := hc2.obj HX2.out (by omega); have q0 := cell_of_heap hx2 (i := 0) (v := .int .i64 0) (by rfl); have q1 := cell_of_heap hx2 (i := 1) (v := .slice none 0 0) (by rfl); have q2 := cell_of_heap hx2 (i := 2) (v := .int .i64 0) (by rfl); have q3 := cell_of_heap hx2 (i := 3) (v := .int .i64 0) (by rfl); have q4 := cell_of_heap hx2 (i := 4) (v := .int .i64 0) (by rfl); have z0 := frozen_of_heap (i := 0) hx2; have z1 := frozen_of_heap (i := 1) hx2; have z2 := frozen_of_heap (i := 2) hx2; have z3 := frozen_of_heap (i := 3) hx2; have z4 := frozen_of_heap (i := 4) hx2))
  obtain ⟨Y, hY, hyx, hcY⟩ := set5 (x := .int .i64 vf) (y := .slice xa vl.length xc) (z := .int .i64 vg) (u := .int .i64 vz) (v := .int .i64 vy) hx2
  rw [hY]
  have y0 := cell_of_heap hyx (i := 0) (v := .int .i64 vf) (by rfl)
  have y1 := cell_of_heap hyx (i := 1) (v := .slice xa vl.length xc) (by rfl)
  have y2 := cell_of_heap hyx (i := 2) (v := .int .i64 vg) (by rfl)
  have y3 := cell_of_heap hyx (i := 3) (v := .int .i64 vz) (by rfl)
  have y4 := cell_of_heap hyx (i := 4) (v := .int .i64 vy) (by rfl)
  refine bodyPost_ret (v := .tuple #[.agg #[.int .i64 vf, .slice xa vl.length xc, .int .i64 vg, .int .i64 vz, .int .i64 vy], .int .i64 (rn : Int)]) (by simp [results, Tryz.results21, go_sem, y0, y1, y2, y3, y4]) rfl ?_
  have hzz := HZ.out
  rw [HR.out]
  exact ⟨_, rfl, hE.kept hcY (fun b hb e => by omega) (fun b hb => by omega), Chg.ret (Chg.ret HB1.out (by omega) hc2) (by omega) hcY⟩
end

end Go.Proofs.YtlmdpcaikhdenaaGreat
/- Segment: the law's lent. (printed by gen/lent17.py) -/
namespace Go.Proofs.YtlmdpcaikhdenaaGreat
open Go.RowKit Go.Maps

/-- append, at a step of a region, and where the row lies then -/
theorem wp_append_seg {P : Program} {w : World} {o : Oper} {a : Act} {K : Act → World → Prop} {Q : Exit → Act → World → Prop} (s x : Operand) (t : TypeId)
    (ho : o.op = .call { callee := .builtin .append, args := #[s, x], argTypes := #[t, t] })
    (base : Nat) (e : TypeId) (i : TypeInfo) (z : Value) (size bytes : Nat) (ht : P.underlying t = some (.slice e)) (hi : P.info? e = some i) (hz : i.zero = some z)
    (hsize : i.size = size) (hby : i.bytes = bytes) (hzs : z.cells.size = size) (hsz : 0 < size)
    (v : Value) (n : Nat) (xs : List Value) (hs : a.eval s = v) (hown : w.ownsRow base e size v n xs)
    (ad : Addr) (m c : Nat) (news : List Value) (hx : a.eval x = .slice (some ad) m c) (hl : news.length = m * size) (hnews : ∀ j u, news[j]? = some u → w.cell? (ad.add j) = some u) (h1 : ∀ u ∈ news, u.oneCell' = true)
    (h63 : n + m ≤ maxLen) (hbytes : (n + m) * bytes ≤ 140737488355328) (hbase : base ≤ w.heap.size)
    (h : ∀ v' w', w'.ownsRow base e size v' (n + m) (xs ++ news) → Grew v w v' w' → K (a.put o.dst v') w') : o.wp P a w K Q := by
  obtain ⟨v', w', hr, h2, h3, _, h5⟩ := run_append_own_at (P := P) w base t o.type e i z size bytes ht hi hz hsize hby hzs hsz v n xs hown ad m c news hl hnews h1 h63 hbytes hbase
  unfold Oper.wp execOp
  simp only [ho, resolve, invoke, builtin, Sem.run_bind, Sem.run_pure, Result.andThen_ok, List.map_toArray, List.map_cons, List.map_nil, hs, hx, hr]
  exact h v' w' h2 (Grew.append h3 h5)
theorem wp_append_segsrc {P : Program} {w : World} {o : Oper} {a : Act} {K : Act → World → Prop} {Q : Exit → Act → World → Prop} (s x : Operand) (t : TypeId)
    (ho : o.op = .call { callee := .builtin .append, args := #[s, x], argTypes := #[t, t] })
    (base : Nat) (e : TypeId) (i : TypeInfo) (z : Value) (bytes : Nat) (ht : P.underlying t = some (.slice e)) (hi : P.info? e = some i) (hz : i.zero = some z)
    (hsize : i.size = 1) (hby : i.bytes = bytes) (hzs : z.cells.size = 1)
    (v : Value) (n : Nat) (xs : List Value) (hs : a.eval s = v) (hown : w.ownsRow base e 1 v n xs)
    (sa : Option Addr) (m c : Nat) (news : List Value) (hx : a.eval x = .slice sa m c) (hl : news.length = m) (hnil : sa = none → c = 0) (hnews : RowAt w sa news) (h1 : ∀ u ∈ news, u.oneCell' = true)
    (h63 : n + m ≤ maxLen) (hbytes : (n + m) * bytes ≤ 140737488355328) (hbase : base ≤ w.heap.size)
    (h : ∀ v' w', w'.ownsRow base e 1 v' (n + m) (xs ++ news) → Grew v w v' w' → K (a.put o.dst v') w') : o.wp P a w K Q := by
  cases sa with
  | none =>
    have hn : news = [] := by
      by_cases hne : news = []
      · exact hne
      · obtain ⟨b, off, e, _⟩ := hnews hne; cases e
    subst hn
    obtain rfl : m = 0 := by simpa using hl.symm
    obtain rfl : c = 0 := hnil rfl
    have hrun := run_append_owned_none (P := P) (w := w) base t o.type e i 1 ht hi v n xs hown
    have hk := h v w (by simpa using hown) (Grew.refl _ _)
    unfold Oper.wp
    simp [execOp, ho, resolve, invoke, builtin, hs, hx, hrun, Result.andThen]
    exact hk
  | some ad =>
    refine wp_append_seg s x t ho base e i z 1 bytes ht hi hz hsize hby hzs (by decide) v n xs hs hown ad m c news hx (by omega) ?_ h1 h63 hbytes hbase h
    intro j u hu
    have hne : news ≠ [] := by intro e; subst e; simp at hu
    obtain ⟨b, off, e, hc⟩ := hnews hne
    cases e
    have := hc j u hu
    rwa [show (⟨b, off, none⟩ : Addr).add j = ⟨b, off + j, none⟩ from by unfold Addr.add; split <;> simp_all]
/-- a lent entry: its bytes, and a mark behind them, in a block of R -/
def MarkIn (R : Nat → Prop) (w : World) (x : Value) (l : List UInt8) : Prop :=
  ∃ b c, x = .slice (some ⟨b, 0, none⟩) l.length c ∧ R b ∧ w.ownsRow 0 5 1 (.slice (some ⟨b, 0, none⟩) (l.length + 1) c) (l.length + 1) ((l ++ [165]).map bv)
theorem MarkIn.kept {R R' O : Nat → Prop} {w w' : World} {x : Value} {l : List UInt8} (h : MarkIn R w x l) (hc : Chg O w w') (hO : ∀ b, x.ownBlock = some b → ¬ O b) (hR : ∀ b, R b → R' b) : MarkIn R' w' x l := by
  obtain ⟨b, c, rfl, h1, h2⟩ := h
  exact ⟨b, c, rfl, hR b h1, hc.row h2 (fun k e => hO k e)⟩
theorem ownsRow_prefix1 {w : World} {base : Nat} {e : TypeId} {g n m c : Nat} {xs ys : List Value} (h : w.ownsRow base e 1 (.slice (some ⟨g, 0, none⟩) n c) n (xs ++ ys)) (hm : m ≤ n) (hl : xs.length = m) : w.ownsRow base e 1 (.slice (some ⟨g, 0, none⟩) m c) m xs := by
  rcases h.2 with ⟨e1, _⟩ | ⟨g', cap, cur, e1, h1, h2, h3, h4, h5, h6⟩
  · cases e1
  · cases e1
    refine ⟨by omega, .inr ⟨g, c, cur, rfl, h1, h2, by omega, h4, h5, ?_⟩⟩
    rw [Nat.mul_one] at h6 ⊢
    have h7 : (cur.toList.take n).take m = (xs ++ ys).take m := by rw [h6]
    rw [List.take_take, Nat.min_eq_left hm, ← hl, List.take_left' rfl] at h7
    rw [← hl]
    exact h7
theorem MarkIn.bytes {R : Nat → Prop} {w : World} {x : Value} {l : List UInt8} (h : MarkIn R w x l) : BytesIn w R x l := by
  obtain ⟨b, c, rfl, h1, h2⟩ := h
  rw [List.map_append] at h2
  have h3 := ownsRow_prefix1 h2 (Nat.le_succ _) (by simp)
  obtain ⟨a', c', e, hr, _⟩ := RowAt.of_owns h3
  cases e
  refine ⟨_, _, rfl, ?_, (fun e => by cases e), hr, fun y e => by cases e; exact h1, fun y e => by cases e; rfl, h3⟩
  rcases h3.2 with ⟨e1, _⟩ | ⟨g', cap, cur, e1, _, _, h5, _⟩
  · cases e1
  · cases e1; exact h5
/-- lent entries: the row, and a mark behind it -/
def LentAt (R : Nat → Prop) (w : World) (g c : Nat) (L : List (List UInt8)) : Prop :=
  ∃ vs m, w.ownsRow 0 26 1 (.slice (some ⟨g, 0, none⟩) (L.length + 1) c) (L.length + 1) (vs ++ [m]) ∧ vs.length = L.length ∧ R g ∧ (∀ (i : Nat) x l, vs[i]? = some x → L[i]? = some l → MarkIn R w x l) ∧ ∃ mb mc, m = .slice (some ⟨mb, 0, none⟩) 1 mc ∧ R mb ∧ w.ownsRow 0 5 1 m 1 [bv 119]
theorem LentAt.kept {R R' O : Nat → Prop} {w w' : World} {g c : Nat} {L : List (List UInt8)} (h : LentAt R w g c L) (hc : Chg O w w') (hO : ∀ b, R b → ¬ O b) (hR : ∀ b, R b → R' b) : LentAt R' w' g c L := by
  obtain ⟨vs, m, h1, h2, h3, h4, mb, mc, rfl, h5, h6⟩ := h
  refine ⟨vs, _, hc.row h1 (fun b e => by cases e; exact hO g h3), h2, hR g h3, fun i x l hx hl => ?_, mb, mc, rfl, hR mb h5, hc.row h6 (fun b e => by cases e; exact hO mb h5)⟩
  have hm := h4 i x l hx hl
  refine hm.kept hc (fun b e => ?_) hR
  obtain ⟨b2, c2, rfl, h7, _⟩ := hm
  cases e
  exact hO _ h7
theorem LentAt.below {R : Nat → Prop} {w w' : World} {g c : Nat} {L : List (List UInt8)} (h : LentAt R w g c L) (hb : Below w.heap.size w w') : LentAt R w' g c L := h.kept (O := fun _ => False) (Chg.of_below hb) (fun _ _ h => h) (fun _ h => h)
theorem LentAt.ents {R : Nat → Prop} {w : World} {g c : Nat} {L : List (List UInt8)} (h : LentAt R w g c L) : EntIn R w (.slice (some ⟨g, 0, none⟩) L.length c) L := by
  obtain ⟨vs, m, h1, h2, h3, h4, _⟩ := h
  exact ⟨vs, ownsRow_prefix1 h1 (Nat.le_succ _) h2, fun b e => by cases e; exact h3, h2, fun i x l hx hl => (h4 i x l hx hl).bytes⟩
/-- the loop's row -/
def LentR (R : Nat → Prop) (w : World) (v : Value) (L : List (List UInt8)) : Prop :=
  ∃ vs, w.ownsRow 0 26 1 v L.length vs ∧ (∀ b, v.ownBlock = some b → R b) ∧ vs.length = L.length ∧ ∀ (i : Nat) x l, vs[i]? = some x → L[i]? = some l → MarkIn R w x l
theorem ty_apart {w : World} {v x : Value} {n m : Nat} {xs ys : List Value} (h1 : w.ownsRow 0 26 1 v n xs) (h2 : w.ownsRow 0 5 1 x m ys) {b : Nat} (hb : v.ownBlock = some b) (hx : x.ownBlock = some b) : False := by
  obtain ⟨cs, fr, e1⟩ := ownsRow_ty h1 hb
  obtain ⟨cs', fr', e2⟩ := ownsRow_ty h2 hx
  rw [e1] at e2
  simp only [Option.some.injEq, Obj.cells.injEq] at e2
  exact absurd e2.2.1 (by decide)
theorem LentR.push {R : Nat → Prop} {w w1 w2 : World} {v v' x : Value} {L : List (List UInt8)} {l : List UInt8} {vs : List Value}
    (h1 : w.ownsRow 0 26 1 v L.length vs) (h2 : ∀ b, v.ownBlock = some b → R b) (h3 : vs.length = L.length) (h4 : ∀ (i : Nat) x l, vs[i]? = some x → L[i]? = some l → MarkIn R w x l)
    (hc : Chg (fun _ => False) w w1) (hx : MarkIn R w1 x l) (hr : w2.ownsRow 0 26 1 v' (L.length + 1) (vs ++ [x])) (hg : Grew v w1 v' w2) (hR : ∀ b, w1.heap.size ≤ b → R b) : LentR R w2 v' (L ++ [l]) := by
  have h1' := hc.row h1 (fun _ _ h => h)
  have nb : ∀ {y : Value} {m : List UInt8}, MarkIn R w1 y m → MarkIn R w2 y m := fun {y m} hy => by
    refine hy.kept hg.1 (fun b hb ho => ?_) (fun _ h => h)
    obtain ⟨b2, c2, rfl, k1, k2⟩ := hy
    exact ty_apart h1' k2 ho hb
  refine ⟨vs ++ [x], by rw [List.length_append]; exact hr, fun b hb => ?_, by simp [h3], fun i y m hy hm => ?_⟩
  · rcases hg.2 with e | ⟨g, e, hge⟩
    · exact h2 b (by rw [← e]; exact hb)
    · rw [e] at hb; cases hb; exact hR _ hge
  · by_cases hi : i < vs.length
    · rw [List.getElem?_append_left hi] at hy
      rw [List.getElem?_append_left (by omega)] at hm
      exact nb ((h4 i y m hy hm).kept hc (fun _ _ h => h) (fun _ h => h))
    · have hi2 : i = vs.length := by
        have := (List.getElem?_eq_some_iff.1 hy).1
        simp at this
        omega
      rw [List.getElem?_append_right (by omega), hi2] at hy
      rw [List.getElem?_append_right (by omega), hi2, h3] at hm
      simp at hy hm
      subst hy hm
      exact nb hx



end Go.Proofs.YtlmdpcaikhdenaaGreat
