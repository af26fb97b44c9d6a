/- Texts of this claim, one behind the other: SgM, SgN. -/
import Derived.Test.YtlmdpcaikhdenaaGreatSl07
import Derived.Deep.RegionHeld3
import Derived.Deep.CutRange
import Derived.Deep.CutBlock
import Derived.RegionTactic
set_option linter.unusedSimpArgs false
set_option linter.unusedVariables false
/- Record: read. -/
namespace Go.Proofs.YtlmdpcaikhdenaaGreat
open Go.RowKit Go.Maps

/-- what read answers -/
def ReadPost (w : World) (b : List UInt8) (e : Ending) (w' : World) : Prop :=
  (readE b = 0 ∧ ∃ U, e = .returned (.tuple #[.agg #[.int .u8 ((readK b).toNat : Int), U, .int .i64 ((readN b : Int) + 9)], .int .i64 0]) ∧ BytesIn w' (fun x => w.heap.size ≤ x) U (readB b) ∧ Below w.heap.size w w') ∨
  (readE b ≠ 0 ∧ e = .returned (.tuple #[.agg #[.int .u8 0, .slice none 0 0, .int .i64 0], .int .i64 (readE b : Int)]) ∧ Below w.heap.size w w')
theorem first_of {b : List UInt8} (h : ¬ b.length = 0) : takeX (b.take 5) 0 1 = (readK b).toNat ∧ takeE (b.take 5) 0 1 = 0 ∧ takeP (b.take 5) 0 1 = 1 := by
  have h1 : 0 + 1 ≤ (b.take 5).length := by rw [List.length_take]; omega
  refine ⟨?_, by unfold takeE; rw [if_pos h1], by unfold takeP; rw [if_pos h1]⟩
  unfold takeX
  rw [if_pos h1]
  cases b with
  | nil => simp at h
  | cons x r => simp [unbe, readK]
theorem num_of {b : List UInt8} (h : 5 ≤ b.length) : takeX (b.take 5) 1 4 = readN b := by
  unfold takeX readN
  rw [if_pos (by rw [List.length_take]; omega), List.drop_take, List.take_take]
  rfl
theorem set3 {w : World} {g : Nat} {a b c x y z : Value} {t : TypeId} (h : w.heap[g]? = some (.cells #[a, b, c] t (0, 0))) : ∃ W, ((w.setCell ⟨g, 0, none⟩ x).setCell ⟨g, 1, none⟩ y).setCell ⟨g, 2, none⟩ z = W ∧ W.heap[g]? = some (.cells #[x, y, z] t (0, 0)) ∧ Chg (· = g) w W := by
  have h1 := heap_set_cells (i := 0) x h
  have h2 := heap_set_cells (i := 1) y h1
  have h3 := heap_set_cells (i := 2) z h2
  have c1 : Chg (· = g) w (w.setCell ⟨g, 0, none⟩ x) := Chg.set _ rfl
  have c2 : Chg (· = g) (w.setCell ⟨g, 0, none⟩ x) ((w.setCell ⟨g, 0, none⟩ x).setCell ⟨g, 1, none⟩ y) := Chg.set _ rfl
  have c3 : Chg (· = g) ((w.setCell ⟨g, 0, none⟩ x).setCell ⟨g, 1, none⟩ y) (((w.setCell ⟨g, 0, none⟩ x).setCell ⟨g, 1, none⟩ y).setCell ⟨g, 2, none⟩ z) := Chg.set _ rfl
  exact ⟨_, rfl, by simpa using h3, (c1.trans c2 (fun _ h _ => h)).trans c3 (fun _ h _ => h)⟩
/-- the error's answer: the result's cells -/
theorem Chg.ret {w w3 W : World} {g : Nat} (hb : Below w.heap.size w w3) (hg : w.heap.size ≤ g) (hc : Chg (· = g) w3 W) : Below w.heap.size w W := Chg.new1 hb hg hc
set_option maxRecDepth 100000 in
set_option maxHeartbeats 8000000 in
theorem read_any {w : World} {a : Option Addr} {c : Nat} {b : List UInt8} (hrow : RowAt w a (b.map bv)) (hnil : a = none → c = 0) (hcap : b.length ≤ c) (hl : b.length ≤ 140737488350000) :
    Calls Tryz.prog 77 #[.slice a b.length c] w (ReadPost w b) := by
  have hmax : maxLen = 9223372036854775807 := rfl
  obtain ⟨w1, hw1⟩ : ∃ w1, (w.alloc (.cells #[.int .u8 0, .slice none 0 0, .int .i64 0] 169)).alloc (.cells #[.int .u8 0, .slice none 0 0, .int .i64 0] 169) = w1 := ⟨_, rfl⟩
  have hb1 : Below w.heap.size w w1 := by rw [← hw1]; exact (below_alloc w _).alloc (by simp) _
  have hz1 : w1.heap.size = w.heap.size + 2 := by rw [← hw1]; simp
  have hx0 : w1.heap[w.heap.size]? = some (.cells #[.int .u8 0, .slice none 0 0, .int .i64 0] 169 (0, 0)) := by rw [← hw1]; exact (Below.heap_alloc _ _ _ (by simp)).trans (World.alloc_heap_new w _)
  have hx1 : w1.heap[w.heap.size + 1]? = some (.cells #[.int .u8 0, .slice none 0 0, .int .i64 0] 169 (0, 0)) := by rw [← hw1]; have := World.alloc_heap_new (w.alloc (.cells #[.int .u8 0, .slice none 0 0, .int .i64 0] 169)) (.cells #[.int .u8 0, .slice none 0 0, .int .i64 0] 169); rwa [World.size_alloc] at this
  have hrow1 := hrow.below hb1
  have HW := Lib.hid hw1
  have HZ := Lib.hid hz1
  have HX0 := Lib.hid hx0
  have HX1 := Lib.hid hx1
  clear hw1 hz1 hx0 hx1
  go_enter Tryz.func77, Tryz.ntmps77
  go_upto_region 2 with (rw [HW.out])
  go_cut [5] from 10 to 15 (fun s5 wx => ∃ p a' c', s5 = .pointer (some ⟨p, 0, none⟩) ∧ RdAt wx p a' c' (b.take 5) 0 ∧ w1.heap.size ≤ p ∧ Below w1.heap.size w1 wx)
  case first =>
    by_cases h5 : 5 < b.length
    · have hR := newReader_any (w := w1) (a := a) (c := c) (l := b.take 5) (by rw [List.map_take]; exact hrow1.take 5) hnil (by simp; omega)
      have hq1 : (b.take 5).length = 5 := by simp; omega
      rw [hq1] at hR
      have hsl := run_slice_hi (P := Tryz.prog) 26 5 Tryz.underlying26 Tryz.sizeOf5 a b.length c 5 (by omega)
      have h5' : (5 : Int) < (b.length : Int) := by omega
      clear hq1
      go_wp2_with (go_at_call 78; refine hR.mono ?_; rintro _ w2 ⟨p, a', c', rfl, hR1, hp, hb2⟩)
      go_meet
      case rel => exact ⟨p, a', c', rfl, hR1, hp, hb2⟩
    · have hR := newReader_any (w := w1) (a := a) (c := c) (l := b.take 5) (by rw [List.map_take]; exact hrow1.take 5) hnil (by simp; omega)
      have hq1 : (b.take 5).length = b.length := by simp; omega
      rw [hq1] at hR
      have hsl := run_slice_hi (P := Tryz.prog) 26 5 Tryz.underlying26 Tryz.sizeOf5 a b.length c b.length (by omega)
      have h5' : (b.length : Int) ≤ 5 := by omega
      clear hq1
      go_wp2_with (go_at_call 78; refine hR.mono ?_; rintro _ w2 ⟨p, a', c', rfl, hR1, hp, hb2⟩)
      go_meet
      case rel => exact ⟨p, a', c', rfl, hR1, hp, hb2⟩
  case rest =>
  obtain ⟨p, a', c', rfl, hR, hp, hb2⟩ := hcut
  have hz := HZ.out
  have k0 : wc.heap[w.heap.size]? = some (.cells #[.int .u8 0, .slice none 0 0, .int .i64 0] 169 (0, 0)) := (hb2.block _ (by omega)).trans HX0.out
  have k1 : wc.heap[w.heap.size + 1]? = some (.cells #[.int .u8 0, .slice none 0 0, .int .i64 0] 169 (0, 0)) := (hb2.block _ (by omega)).trans HX1.out
  have hbw : Below w.heap.size w wc := hb1.trans (hb2.mono hb1.size)
  have hT := take_byte hR
  have HB := Lib.hid hbw
  have K0 := Lib.hid k0
  have K1 := Lib.hid k1
  have hp2 : w.heap.size + 2 ≤ p := by omega
  have hp0 := Lib.hid hp2
  clear hz hb1 hb2 hrow1 hp k0 k1 hbw
  by_cases h0 : b.length = 0
  · have e1 : takeX (b.take 5) 0 1 = 0 := by unfold takeX; rw [if_neg (by rw [List.length_take]; omega)]
    have e2 : takeE (b.take 5) 0 1 = 110 := by unfold takeE; rw [if_neg (by rw [List.length_take]; omega)]
    have hE : readE b = 170 := by unfold readE; rw [if_pos h0]
    rw [e1, e2] at hT
    have HE := Lib.hid hE
    clear e1 e2 hE h0 hp2
    go_wp2_with (go_at_call 121; refine hT.mono ?_; rintro _ w3 ⟨rfl, hR3, hc3⟩; have k03 := hc3.obj K0.out (by have := hp0.out; omega); have c30 := cell_of_heap k03 (i := 0) (v := .int .u8 0) (by rfl); have c31 := cell_of_heap k03 (i := 1) (v := .slice none 0 0) (by rfl); have c32 := cell_of_heap k03 (i := 2) (v := .int .i64 0) (by rfl); have z30 := frozen_of_heap (i := 0) k03; have z31 := frozen_of_heap (i := 1) k03; have z32 := frozen_of_heap (i := 2) k03)
    obtain ⟨W, hW, hx, hcW⟩ := set3 (x := .int .u8 0) (y := .slice none 0 0) (z := .int .i64 0) k03
    rw [hW]
    have d0 := cell_of_heap hx (i := 0) (v := .int .u8 0) (by rfl)
    have d1 := cell_of_heap hx (i := 1) (v := .slice none 0 0) (by rfl)
    have d2 := cell_of_heap hx (i := 2) (v := .int .i64 0) (by rfl)
    exact bodyPost_ret (v := .tuple #[.agg #[.int .u8 0, .slice none 0 0, .int .i64 0], .int .i64 170]) (by simp [results, Tryz.results77, go_sem, d0, d1, d2]) rfl (.inr ⟨by rw [HE.out]; decide, by rw [HE.out]; rfl, Chg.ret (Chg.new1 HB.out (by have := hp0.out; omega) hc3) (Nat.le_refl _) hcW⟩)
  obtain ⟨e1, e2, e3⟩ := first_of h0
  rw [e1, e2, e3] at hT
  obtain ⟨kd, hkd⟩ : ∃ kd, readK b = kd := ⟨_, rfl⟩
  have hpos : 0 < b.length := by omega
  rw [hkd] at hT
  have hd0 := kd.toNat_lt
  by_cases hk0 : kd = 0
  · have hE : readE b = 171 := by unfold readE; rw [if_neg h0, if_pos (show b.getD 0 0 = 0 from hkd.trans hk0)]
    subst hk0
    have HE := Lib.hid hE
    clear e1 e2 e3 hE h0 hp2 hkd
    go_wp2_with (go_at_call 121; refine hT.mono ?_; rintro _ w3 ⟨rfl, hR3, hc3⟩; have k03 := hc3.obj K0.out (by have := hp0.out; omega); have hb3 := Chg.new1 HB.out (by have := hp0.out; omega) hc3; have c30 := cell_of_heap k03 (i := 0) (v := .int .u8 0) (by rfl); have c31 := cell_of_heap k03 (i := 1) (v := .slice none 0 0) (by rfl); have c32 := cell_of_heap k03 (i := 2) (v := .int .i64 0) (by rfl); have z30 := frozen_of_heap (i := 0) k03; have z31 := frozen_of_heap (i := 1) k03; have z32 := frozen_of_heap (i := 2) k03)
    obtain ⟨W, hW, hx, hcW⟩ := set3 (x := .int .u8 0) (y := .slice none 0 0) (z := .int .i64 0) k03
    rw [hW]
    have d0 := cell_of_heap hx (i := 0) (v := .int .u8 0) (by rfl)
    have d1 := cell_of_heap hx (i := 1) (v := .slice none 0 0) (by rfl)
    have d2 := cell_of_heap hx (i := 2) (v := .int .i64 0) (by rfl)
    exact bodyPost_ret (v := .tuple #[.agg #[.int .u8 0, .slice none 0 0, .int .i64 0], .int .i64 171]) (by simp [results, Tryz.results77, go_sem, d0, d1, d2]) rfl (.inr ⟨by rw [HE.out]; decide, by rw [HE.out]; rfl, Chg.ret hb3 (Nat.le_refl _) hcW⟩)
  have hk : ((kd.toNat : Int) == 0) = false := by
    rw [beq_eq_false_iff_ne]
    intro e
    exact hk0 (UInt8.toNat_inj.1 (by simpa using e))
  have hnk : ¬ b.getD 0 0 = 0 := fun e => hk0 (by rw [← hkd]; exact e)
  by_cases h5 : b.length < 5
  · have hE : readE b = 170 := by unfold readE; rw [if_neg h0, if_neg hnk, if_pos h5]
    have HE := Lib.hid hE
    have HE1 := Lib.hid (show takeX (b.take 5) 1 4 = 0 by unfold takeX; rw [if_neg (by rw [List.length_take]; omega)])
    have HE2 := Lib.hid (show takeE (b.take 5) 1 4 = 110 by unfold takeE; rw [if_neg (by rw [List.length_take]; omega)])
    clear e1 e2 e3 hE h0 hp2 hkd hk0 hnk h5
    go_wp2_with (first
      | (go_at_call 121; refine hT.mono ?_; rintro _ w3 ⟨rfl, hR3, hc3⟩; have k03 := hc3.obj K0.out (by have := hp0.out; omega); have k13 := hc3.obj K1.out (by have := hp0.out; omega); have hb3 := Chg.new1 HB.out (by have := hp0.out; omega) hc3; have c30 := cell_of_heap k03 (i := 0) (v := .int .u8 0) (by rfl); have c31 := cell_of_heap k03 (i := 1) (v := .slice none 0 0) (by rfl); have c32 := cell_of_heap k03 (i := 2) (v := .int .i64 0) (by rfl); have z30 := frozen_of_heap (i := 0) k03; have z31 := frozen_of_heap (i := 1) k03; have z32 := frozen_of_heap (i := 2) k03; have hU := take_uint32 hR3; rw [HE1.out, HE2.out] at hU)
      | (go_at_call 122; refine hU.mono ?_; rintro _ w4 ⟨rfl, hR4, hc4⟩; clear c30 z30 c31 z31 c32 z32; have k04 := hc4.obj k03 (by have := hp0.out; omega); have k14 := hc4.obj k13 (by have := hp0.out; omega); have hb4 := Chg.new1 hb3 (by have := hp0.out; omega) hc4; have c40 := cell_of_heap k04 (i := 0) (v := .int .u8 0) (by rfl); have c41 := cell_of_heap k04 (i := 1) (v := .slice none 0 0) (by rfl); have c42 := cell_of_heap k04 (i := 2) (v := .int .i64 0) (by rfl); have z40 := frozen_of_heap (i := 0) k04; have z41 := frozen_of_heap (i := 1) k04; have z42 := frozen_of_heap (i := 2) k04))
    obtain ⟨W, hW, hx, hcW⟩ := set3 (x := .int .u8 0) (y := .slice none 0 0) (z := .int .i64 0) k04
    rw [hW]
    have d0 := cell_of_heap hx (i := 0) (v := .int .u8 0) (by rfl)
    have d1 := cell_of_heap hx (i := 1) (v := .slice none 0 0) (by rfl)
    have d2 := cell_of_heap hx (i := 2) (v := .int .i64 0) (by rfl)
    exact bodyPost_ret (v := .tuple #[.agg #[.int .u8 0, .slice none 0 0, .int .i64 0], .int .i64 170]) (by simp [results, Tryz.results77, go_sem, d0, d1, d2]) rfl (.inr ⟨by rw [HE.out]; decide, by rw [HE.out]; rfl, Chg.ret hb4 (Nat.le_refl _) hcW⟩)
  have h5' : 5 ≤ b.length := by omega
  obtain ⟨N, hN⟩ : ∃ N, readN b = N := ⟨_, rfl⟩
  have hNl : N < 4294967296 := by rw [← hN]; unfold readN; exact take_unbe_lt b 1 4
  have HE1 := Lib.hid (show takeX (b.take 5) 1 4 = N by rw [← hN]; exact num_of h5')
  have HE2 := Lib.hid (show takeE (b.take 5) 1 4 = 0 by unfold takeE; rw [if_pos (by rw [List.length_take]; omega)])
  have hN0 : (0 : Int) ≤ (N : Int) := by omega
  have hcv : IntKind.i64.wrap (N : Int) = (N : Int) := Go.IntWalk.i64_in _ (by omega)
  by_cases hM : 8388608 < N
  · have hE : readE b = 3 := by unfold readE; rw [if_neg h0, if_neg hnk, if_neg h5, if_pos (show 8388608 < unbe ((b.drop 1).take 4) by rw [← hN] at hM; exact hM)]
    have HE := Lib.hid hE
    have g1 : decide ((8388608 : Int) < (N : Int)) = true := by simp; omega
    clear e1 e2 e3 hE h0 hp2 hkd hk0 hnk h5 h5' hN hM
    go_wp2_with (first
      | (go_at_call 121; refine hT.mono ?_; rintro _ w3 ⟨rfl, hR3, hc3⟩; have k03 := hc3.obj K0.out (by have := hp0.out; omega); have k13 := hc3.obj K1.out (by have := hp0.out; omega); have hb3 := Chg.new1 HB.out (by have := hp0.out; omega) hc3; have c30 := cell_of_heap k03 (i := 0) (v := .int .u8 0) (by rfl); have c31 := cell_of_heap k03 (i := 1) (v := .slice none 0 0) (by rfl); have c32 := cell_of_heap k03 (i := 2) (v := .int .i64 0) (by rfl); have z30 := frozen_of_heap (i := 0) k03; have z31 := frozen_of_heap (i := 1) k03; have z32 := frozen_of_heap (i := 2) k03; have hU := take_uint32 hR3; rw [HE1.out, HE2.out] at hU)
      | (go_at_call 122; refine hU.mono ?_; rintro _ w4 ⟨rfl, hR4, hc4⟩; clear c30 z30 c31 z31 c32 z32; have k04 := hc4.obj k03 (by have := hp0.out; omega); have k14 := hc4.obj k13 (by have := hp0.out; omega); have hb4 := Chg.new1 hb3 (by have := hp0.out; omega) hc4; have c40 := cell_of_heap k04 (i := 0) (v := .int .u8 0) (by rfl); have c41 := cell_of_heap k04 (i := 1) (v := .slice none 0 0) (by rfl); have c42 := cell_of_heap k04 (i := 2) (v := .int .i64 0) (by rfl); have z40 := frozen_of_heap (i := 0) k04; have z41 := frozen_of_heap (i := 1) k04; have z42 := frozen_of_heap (i := 2) k04))
    obtain ⟨W, hW, hx, hcW⟩ := set3 (x := .int .u8 0) (y := .slice none 0 0) (z := .int .i64 0) k04
    rw [hW]
    have d0 := cell_of_heap hx (i := 0) (v := .int .u8 0) (by rfl)
    have d1 := cell_of_heap hx (i := 1) (v := .slice none 0 0) (by rfl)
    have d2 := cell_of_heap hx (i := 2) (v := .int .i64 0) (by rfl)
    exact bodyPost_ret (v := .tuple #[.agg #[.int .u8 0, .slice none 0 0, .int .i64 0], .int .i64 3]) (by simp [results, Tryz.results77, go_sem, d0, d1, d2]) rfl (.inr ⟨by rw [HE.out]; decide, by rw [HE.out]; rfl, Chg.ret hb4 (Nat.le_refl _) hcW⟩)
  have g1 : decide ((8388608 : Int) < (N : Int)) = false := by simp; omega
  have hN1 : (N : Int) ≤ 8388608 := by omega
  by_cases hS : b.length < N + 9
  · have hE : readE b = 170 := by
      have hM' : ¬ 8388608 < unbe ((b.drop 1).take 4) := by show ¬ 8388608 < readN b; rw [hN]; exact hM
      have hS' : b.length < unbe ((b.drop 1).take 4) + 9 := by show b.length < readN b + 9; rw [hN]; exact hS
      unfold readE; rw [if_neg h0, if_neg hnk, if_neg h5, if_neg hM', if_pos hS']
    have HE := Lib.hid hE
    have g2 : decide ((b.length : Int) < 5 + (N : Int) + 4) = true := by simp; omega
    clear e1 e2 e3 hE h0 hp2 hkd hk0 hnk h5 h5' hN hM hS
    go_wp2_with (first
      | (go_at_call 121; refine hT.mono ?_; rintro _ w3 ⟨rfl, hR3, hc3⟩; have k03 := hc3.obj K0.out (by have := hp0.out; omega); have k13 := hc3.obj K1.out (by have := hp0.out; omega); have hb3 := Chg.new1 HB.out (by have := hp0.out; omega) hc3; have c30 := cell_of_heap k03 (i := 0) (v := .int .u8 0) (by rfl); have c31 := cell_of_heap k03 (i := 1) (v := .slice none 0 0) (by rfl); have c32 := cell_of_heap k03 (i := 2) (v := .int .i64 0) (by rfl); have z30 := frozen_of_heap (i := 0) k03; have z31 := frozen_of_heap (i := 1) k03; have z32 := frozen_of_heap (i := 2) k03; have hU := take_uint32 hR3; rw [HE1.out, HE2.out] at hU)
      | (go_at_call 122; refine hU.mono ?_; rintro _ w4 ⟨rfl, hR4, hc4⟩; clear c30 z30 c31 z31 c32 z32; have k04 := hc4.obj k03 (by have := hp0.out; omega); have k14 := hc4.obj k13 (by have := hp0.out; omega); have hb4 := Chg.new1 hb3 (by have := hp0.out; omega) hc4; have c40 := cell_of_heap k04 (i := 0) (v := .int .u8 0) (by rfl); have c41 := cell_of_heap k04 (i := 1) (v := .slice none 0 0) (by rfl); have c42 := cell_of_heap k04 (i := 2) (v := .int .i64 0) (by rfl); have z40 := frozen_of_heap (i := 0) k04; have z41 := frozen_of_heap (i := 1) k04; have z42 := frozen_of_heap (i := 2) k04))
    obtain ⟨W, hW, hx, hcW⟩ := set3 (x := .int .u8 0) (y := .slice none 0 0) (z := .int .i64 0) k04
    rw [hW]
    have d0 := cell_of_heap hx (i := 0) (v := .int .u8 0) (by rfl)
    have d1 := cell_of_heap hx (i := 1) (v := .slice none 0 0) (by rfl)
    have d2 := cell_of_heap hx (i := 2) (v := .int .i64 0) (by rfl)
    exact bodyPost_ret (v := .tuple #[.agg #[.int .u8 0, .slice none 0 0, .int .i64 0], .int .i64 170]) (by simp [results, Tryz.results77, go_sem, d0, d1, d2]) rfl (.inr ⟨by rw [HE.out]; decide, by rw [HE.out]; rfl, Chg.ret hb4 (Nat.le_refl _) hcW⟩)
  have g2 : decide ((b.length : Int) < 5 + (N : Int) + 4) = false := by simp; omega
  have hw9 : IntKind.i64.wrap (5 + (N : Int) + 4) = 5 + (N : Int) + 4 := Go.IntWalk.i64_in _ (by omega)
  have hE0 : readE b = if ends (b.take (5 + N)) ≠ (b.drop (5 + N)).take 4 then 172 else 0 := by
    have hM' : ¬ 8388608 < unbe ((b.drop 1).take 4) := by show ¬ 8388608 < readN b; rw [hN]; exact hM
    have hS' : ¬ b.length < unbe ((b.drop 1).take 4) + 9 := by show ¬ b.length < readN b + 9; rw [hN]; exact hS
    rw [← hN]
    unfold readE; rw [if_neg h0, if_neg hnk, if_neg h5, if_neg hM', if_neg hS']
    rfl
  have hsA := run_slice_lh' (P := Tryz.prog) 26 5 Tryz.underlying26 Tryz.sizeOf5 a b.length c (5 + N) (5 + N + 4) (by omega) (by omega)
  have hsB := run_slice_hi (P := Tryz.prog) 26 5 Tryz.underlying26 Tryz.sizeOf5 a b.length c (5 + N) (by omega)
  rw [show ((5 + N + 4 : Nat) : Int) = 5 + (N : Int) + 4 from by omega, show ((5 + N : Nat) : Int) = 5 + (N : Int) from by omega, show 5 + N + 4 - (5 + N) = 4 from by omega] at hsA
  rw [show ((5 + N : Nat) : Int) = 5 + (N : Int) from by omega] at hsB
  have hlA : ((b.drop (5 + N)).take 4).length = 4 := by simp; omega
  have hlB : (b.take (5 + N)).length = 5 + N := by simp; omega
  have hEnd : ∀ W, Below w.heap.size w W → Calls Tryz.prog 117 #[.slice a (5 + N) c] W fun e w' => ∃ U, e = .returned U ∧ BytesIn w' (fun x => W.heap.size ≤ x) U (ends (b.take (5 + N))) ∧ Below W.heap.size W w' := fun W hb => by
    have := ends_any (w := W) (a := a) (c := c) (l := b.take (5 + N)) (by rw [List.map_take]; exact (hrow.below hb).take _) (by omega)
    rwa [hlB] at this
  have hEq : ∀ W (U : Value), Below w.heap.size w W → ∀ ua uc, U = .slice ua 4 uc → RowAt W ua ((ends (b.take (5 + N))).map bv) → Calls Tryz.prog 123 #[.slice (subAt a c (5 + N)) 4 (c - (5 + N)), U] W fun e w' => e = .returned (.bool ((b.drop (5 + N)).take 4 == ends (b.take (5 + N)))) ∧ Below W.heap.size W w' := fun W U hb ua uc hU hr => by
    subst hU
    have := equal_any (w := W) (a := subAt a c (5 + N)) (c := c - (5 + N)) (a' := ua) (c' := uc) (l := (b.drop (5 + N)).take 4) (m := ends (b.take (5 + N))) (by rw [List.map_take, List.map_drop]; exact ((hrow.below hb).drop c _ (by simpa using hcap)).take 4) hr (by omega) (by simp [ends])
    rwa [hlA] at this
  have HEnd := Lib.hid hEnd
  have HEq := Lib.hid hEq
  have HN := Lib.hid hN
  have HRow := Lib.hid hrow
  have HKD := Lib.hid hkd
  obtain ⟨tb, htb⟩ : ∃ tb, ((b.drop (5 + N)).take 4 == ends (b.take (5 + N))) = tb := ⟨_, rfl⟩
  rw [htb] at HEq
  have HTB := Lib.hid htb
  have hS9 : N + 9 ≤ b.length := by omega
  have HS9 := Lib.hid hS9
  have HE0 := Lib.hid hE0
  clear e1 e2 e3 hp2 hkd hk0 hnk h5 h5' hN hM hS hlA hlB hEnd hEq htb h0 hE0 hS9
  go_upto_region 16 with (first
    | (go_at_call 121; refine hT.mono ?_; rintro _ w3 ⟨rfl, hR3, hc3⟩; have k03 := hc3.obj K0.out (by have := hp0.out; omega); have k13 := hc3.obj K1.out (by have := hp0.out; omega); have hb3 := Chg.new1 HB.out (by have := hp0.out; omega) hc3; have c30 := cell_of_heap k03 (i := 0) (v := .int .u8 0) (by rfl); have c31 := cell_of_heap k03 (i := 1) (v := .slice none 0 0) (by rfl); have c32 := cell_of_heap k03 (i := 2) (v := .int .i64 0) (by rfl); have z30 := frozen_of_heap (i := 0) k03; have z31 := frozen_of_heap (i := 1) k03; have z32 := frozen_of_heap (i := 2) k03; have hU := take_uint32 hR3; rw [HE1.out, HE2.out] at hU)
    | (go_at_call 122; refine hU.mono ?_; rintro _ w4 ⟨rfl, hR4, hc4⟩; clear c30 z30 c31 z31 c32 z32; have k04 := hc4.obj k03 (by have := hp0.out; omega); have k14 := hc4.obj k13 (by have := hp0.out; omega); have hb4 := Chg.new1 hb3 (by have := hp0.out; omega) hc4; have c40 := cell_of_heap k04 (i := 0) (v := .int .u8 0) (by rfl); have c41 := cell_of_heap k04 (i := 1) (v := .slice none 0 0) (by rfl); have c42 := cell_of_heap k04 (i := 2) (v := .int .i64 0) (by rfl); have z40 := frozen_of_heap (i := 0) k04; have z41 := frozen_of_heap (i := 1) k04; have z42 := frozen_of_heap (i := 2) k04))
  refine wp_region_held_drew (S := fun _ => True) (by kernel_rfl) (trivial) (fun hHeld => ?_)
  refine wpAnyH_take (i := 0) (v := ?_) rfl (by kernel_rfl) (by kernel_rfl) (by kernel_rfl) (fun _ _ _ h => h) (Or.inl ⟨by rfl, ?_⟩) hHeld ?_
  rotate_left
  · intro w hSw; (try dsimp only at hSw); go_simp
    all_goals (with_reducible rfl)
  (try simp only [Act.put, List.getElem_toArray, List.getElem_cons_succ, List.getElem_cons_zero, List.setIfInBounds_toArray, List.set_cons_zero, List.set_cons_succ])
  refine wpAnyH_take (i := 1) (v := ?_) rfl (by kernel_rfl) (by kernel_rfl) (by kernel_rfl) (fun _ _ _ h => h) (Or.inl ⟨by rfl, ?_⟩) hHeld ?_
  rotate_left
  · intro w hSw; (try dsimp only at hSw); go_simp
    all_goals (with_reducible rfl)
  (try simp only [Act.put, List.getElem_toArray, List.getElem_cons_succ, List.getElem_cons_zero, List.setIfInBounds_toArray, List.set_cons_zero, List.set_cons_succ])
  refine wpAnyH_take (i := 2) (v := ?_) rfl (by kernel_rfl) (by kernel_rfl) (by kernel_rfl) (fun _ _ _ h => h) (Or.inl ⟨by rfl, ?_⟩) hHeld ?_
  rotate_left
  · intro w hSw; (try dsimp only at hSw); go_simp
    all_goals (with_reducible rfl)
  (try simp only [Act.put, List.getElem_toArray, List.getElem_cons_succ, List.getElem_cons_zero, List.setIfInBounds_toArray, List.set_cons_zero, List.set_cons_succ])
  refine wpAnyH_take (i := 3) (v := ?_) rfl (by kernel_rfl) (by kernel_rfl) (by kernel_rfl) (fun _ _ _ h => h) (Or.inl ⟨by rfl, ?_⟩) hHeld ?_
  rotate_left
  · intro w hSw; (try dsimp only at hSw); go_simp
    all_goals (with_reducible rfl)
  (try simp only [Act.put, List.getElem_toArray, List.getElem_cons_succ, List.getElem_cons_zero, List.setIfInBounds_toArray, List.set_cons_zero, List.set_cons_succ])
  refine wpAnyH_take (i := 4) (v := ?_) rfl (by kernel_rfl) (by kernel_rfl) (by kernel_rfl) (fun _ _ _ h => h) (Or.inl ⟨by rfl, ?_⟩) hHeld ?_
  rotate_left
  · intro w hSw; (try dsimp only at hSw); go_simp
    all_goals (with_reducible rfl)
  (try simp only [Act.put, List.getElem_toArray, List.getElem_cons_succ, List.getElem_cons_zero, List.setIfInBounds_toArray, List.set_cons_zero, List.set_cons_succ])
  refine wpAnyH_take (i := 5) (v := ?_) rfl (by kernel_rfl) (by kernel_rfl) (by kernel_rfl) (fun _ _ _ h => h) (Or.inl ⟨by rfl, ?_⟩) hHeld ?_
  rotate_left
  · intro w hSw; (try dsimp only at hSw); go_simp
    all_goals (with_reducible rfl)
  (try simp only [Act.put, List.getElem_toArray, List.getElem_cons_succ, List.getElem_cons_zero, List.setIfInBounds_toArray, List.set_cons_zero, List.set_cons_succ])
  refine wpAnyH_take (i := 6) (v := ?_) rfl (by kernel_rfl) (by kernel_rfl) (by kernel_rfl) (fun _ _ _ h => h) (Or.inl ⟨by rfl, ?_⟩) hHeld ?_
  rotate_left
  · intro w hSw; (try dsimp only at hSw); go_simp
    all_goals (with_reducible rfl)
  (try simp only [Act.put, List.getElem_toArray, List.getElem_cons_succ, List.getElem_cons_zero, List.setIfInBounds_toArray, List.set_cons_zero, List.set_cons_succ])
  refine wpAnyH_take (i := 7) (v := ?_) rfl (by kernel_rfl) (by kernel_rfl) (by kernel_rfl) (fun _ _ _ h => h) (Or.inl ⟨by rfl, ?_⟩) hHeld ?_
  rotate_left
  · intro w hSw; (try dsimp only at hSw); go_simp
    all_goals (with_reducible rfl)
  (try simp only [Act.put, List.getElem_toArray, List.getElem_cons_succ, List.getElem_cons_zero, List.setIfInBounds_toArray, List.set_cons_zero, List.set_cons_succ])
  refine wpAnyH_ready (rs := [8]) (by kernel_rfl) (by simp) ?_
  refine AllReadyH.cons rfl (fun K hK => ?_) AllReadyH.nil
  go_simp
  have hb4' : Below w.heap.size w w4.drew := ⟨hb4.os, hb4.tape, hb4.output, hb4.size, hb4.block⟩
  have hen := HEnd.out _ hb4'
  go_wp2_with (go_at_call 117; refine hen.mono ?_; rintro _ w5 ⟨U, rfl, hU5, hb5⟩)
  obtain ⟨ua, uc, rfl, _, _, hur⟩ := hU5.row
  have hb45 := hb4'.trans (hb5.mono hb4'.size)
  have heq := HEq.out w5 _ hb45 ua uc rfl hur
  have k05 := (hb5.block _ (heap_lt k04)).trans k04
  have k15 := (hb5.block _ (heap_lt k14)).trans k14
  clear c40 z40 c41 z41 c42 z42
  refine hK.out _ _ trivial (fun hHeld => ?_)
  clear hK K
  (try simp only [Act.put, List.getElem_toArray, List.getElem_cons_succ, List.getElem_cons_zero, List.setIfInBounds_toArray, List.set_cons_zero, List.set_cons_succ])
  refine wpAnyH_ready (rs := [9]) (by kernel_rfl) (by simp) ?_
  refine AllReadyH.cons rfl (fun K hK => ?_) AllReadyH.nil
  go_simp
  go_wp2_with (go_at_call 123; refine heq.mono ?_; rintro _ w6 ⟨rfl, hb6⟩)
  have hb46 := hb45.trans (hb6.mono hb45.size)
  have k06 := (hb6.block _ (heap_lt k05)).trans k05
  have k16 := (hb6.block _ (heap_lt k15)).trans k15
  refine hK.out _ _ trivial (fun hHeld => ?_)
  clear hK K
  (try simp only [Act.put, List.getElem_toArray, List.getElem_cons_succ, List.getElem_cons_zero, List.setIfInBounds_toArray, List.set_cons_zero, List.set_cons_succ])
  refine wpAnyH_take (i := 10) (v := ?_) rfl (by kernel_rfl) (by kernel_rfl) (by kernel_rfl) (fun _ _ _ h => h) (Or.inl ⟨by rfl, ?_⟩) hHeld ?_
  rotate_left
  · intro w hSw; (try dsimp only at hSw); go_simp
    all_goals (with_reducible rfl)
  (try simp only [Act.put, List.getElem_toArray, List.getElem_cons_succ, List.getElem_cons_zero, List.setIfInBounds_toArray, List.set_cons_zero, List.set_cons_succ])
  refine wpAnyH_take (i := 11) (v := ?_) rfl (by kernel_rfl) (by kernel_rfl) (by kernel_rfl) (fun _ _ _ h => h) (Or.inl ⟨by rfl, ?_⟩) hHeld ?_
  rotate_left
  · intro w hSw; (try dsimp only at hSw); go_simp
    all_goals (with_reducible rfl)
  (try simp only [Act.put, List.getElem_toArray, List.getElem_cons_succ, List.getElem_cons_zero, List.setIfInBounds_toArray, List.set_cons_zero, List.set_cons_succ])
  refine wpAnyH_done (by kernel_rfl) ?_ _
  clear hHeld
  have c60 := cell_of_heap k06 (i := 0) (v := .int .u8 0) (by rfl); have c61 := cell_of_heap k06 (i := 1) (v := .slice none 0 0) (by rfl); have c62 := cell_of_heap k06 (i := 2) (v := .int .i64 0) (by rfl); have z60 := frozen_of_heap (i := 0) k06; have z61 := frozen_of_heap (i := 1) k06; have z62 := frozen_of_heap (i := 2) k06
  cases tb with
  | false =>
    have hE : readE b = 172 := by
      rw [HE0.out, if_pos (fun e => by have := HTB.out; rw [← e] at this; simp at this)]
    have HE := Lib.hid hE
    clear hE
    go_wp2_with fail
    obtain ⟨W, hW, hx, hcW⟩ := set3 (x := .int .u8 0) (y := .slice none 0 0) (z := .int .i64 0) k06
    rw [hW]
    have d0 := cell_of_heap hx (i := 0) (v := .int .u8 0) (by rfl)
    have d1 := cell_of_heap hx (i := 1) (v := .slice none 0 0) (by rfl)
    have d2 := cell_of_heap hx (i := 2) (v := .int .i64 0) (by rfl)
    exact bodyPost_ret (v := .tuple #[.agg #[.int .u8 0, .slice none 0 0, .int .i64 0], .int .i64 172]) (by simp [results, Tryz.results77, go_sem, d0, d1, d2]) rfl (.inr ⟨by rw [HE.out]; decide, by rw [HE.out]; rfl, Chg.ret hb46 (Nat.le_refl _) hcW⟩)
  | true =>
    have hE : readE b = 0 := by
      rw [HE0.out, if_neg (fun e => e (by have := HTB.out; rw [beq_iff_eq] at this; exact this.symm))]
    have HE := Lib.hid hE
    have HRB := Lib.hid (show (b.drop 5).take N = readB b by rw [← HN.out]; rfl)
    have hlC : ((b.drop 5).take N).length = N := by have := HS9.out; simp; omega
    have hsC := run_slice_lh' (P := Tryz.prog) 26 5 Tryz.underlying26 Tryz.sizeOf5 a b.length c 5 (5 + N) (by omega) (by have := HS9.out; omega)
    rw [show ((5 + N : Nat) : Int) = 5 + (N : Int) from by omega, show ((5 : Nat) : Int) = 5 from rfl, show 5 + N - 5 = N from by omega] at hsC
    have hcl : Calls Tryz.prog 70 #[.slice (subAt a c 5) N (c - 5)] w6 fun e w' => ∃ v, e = .returned v ∧ BytesIn w' (NewIn w6 w') v ((b.drop 5).take N) ∧ Below w6.heap.size w6 w' := by
      have := clone_any (subAt a c 5) (c - 5) ((b.drop 5).take N) w6 (fun e => by have := hnil (subAt_none.1 e); omega) (by rw [List.map_take, List.map_drop]; exact ((HRow.out.below hb46).drop c _ (by simpa using hcap)).take N) (by omega)
      rwa [hlC] at this
    rw [HRB.out] at hcl
    have HC := Lib.hid hcl
    clear hE hlC hcl
    go_upto_region 19 with (go_at_call 70; refine HC.out.mono ?_; rintro _ w7 ⟨V, rfl, hV, hb7⟩; obtain ⟨va, vc, rfl, _⟩ := hV.row; have k07 := (hb7.block _ (heap_lt k06)).trans k06; have k17 := (hb7.block _ (heap_lt k16)).trans k16; have c70 := cell_of_heap k17 (i := 0) (v := .int .u8 0) (by rfl); have c71 := cell_of_heap k17 (i := 1) (v := .slice none 0 0) (by rfl); have c72 := cell_of_heap k17 (i := 2) (v := .int .i64 0) (by rfl); have z70 := frozen_of_heap (i := 0) k17; have z71 := frozen_of_heap (i := 1) k17; have z72 := frozen_of_heap (i := 2) k17)
    obtain ⟨W8, hW8, hx8, hc8⟩ := set3 (x := .int .u8 (kd.toNat : Int)) (y := .slice va (readB b).length vc) (z := .int .i64 (5 + (N : Int) + 4)) k17
    rw [hW8]
    have k08 := hc8.obj k07 (by omega)
    clear c70 z70 c71 z71 c72 z72
    have c80 := cell_of_heap k08 (i := 0) (v := .int .u8 0) (by rfl); have c81 := cell_of_heap k08 (i := 1) (v := .slice none 0 0) (by rfl); have c82 := cell_of_heap k08 (i := 2) (v := .int .i64 0) (by rfl); have z80 := frozen_of_heap (i := 0) k08; have z81 := frozen_of_heap (i := 1) k08; have z82 := frozen_of_heap (i := 2) k08
    have d80 := cell_of_heap hx8 (i := 0) (v := .int .u8 (kd.toNat : Int)) (by rfl)
    have d81 := cell_of_heap hx8 (i := 1) (v := .slice va (readB b).length vc) (by rfl)
    have d82 := cell_of_heap hx8 (i := 2) (v := .int .i64 (5 + (N : Int) + 4)) (by rfl)
    have HW8 := Lib.hid hW8
    have HC8 := Lib.hid hc8
    clear hW8 hc8
    go_wp2_with fail
    obtain ⟨W, hW, hx, hcW⟩ := set3 (x := .int .u8 (kd.toNat : Int)) (y := .slice va (readB b).length vc) (z := .int .i64 (5 + (N : Int) + 4)) k08
    rw [hW]
    have d0 := cell_of_heap hx (i := 0) (v := .int .u8 (kd.toNat : Int)) (by rfl)
    have d1 := cell_of_heap hx (i := 1) (v := .slice va (readB b).length vc) (by rfl)
    have d2 := cell_of_heap hx (i := 2) (v := .int .i64 (5 + (N : Int) + 4)) (by rfl)
    have hb47 := hb46.trans (hb7.mono hb46.size)
    have hb48 : Below w.heap.size w W8 := Chg.ret hb47 (Nat.le_succ _) HC8.out
    have hs6 := hb46.size
    have hs7 := hb47.size
    have hl6 := heap_lt k16
    have hV8 := hV.kept (R' := fun x => w.heap.size + 2 ≤ x) HC8.out (fun x hx e => by have := hx.1; omega) (fun x hx => by have := hx.1; omega)
    exact bodyPost_ret (v := .tuple #[.agg #[.int .u8 (kd.toNat : Int), .slice va (readB b).length vc, .int .i64 (5 + (N : Int) + 4)], .int .i64 0]) (by simp [results, Tryz.results77, go_sem, d0, d1, d2]) rfl (.inl ⟨HE.out, _, by rw [HKD.out, HN.out, show (5 + (N : Int) + 4) = (N : Int) + 9 from by omega], hV8.kept hcW (fun x hx e => by omega) (fun x hx => by omega), Chg.ret hb48 (Nat.le_refl _) hcW⟩)

end Go.Proofs.YtlmdpcaikhdenaaGreat
/- Record: Read. -/
namespace Go.Proofs.YtlmdpcaikhdenaaGreat
open Go.RowKit Go.Maps

/-- what Read answers -/
def RecPost (w : World) (b : List UInt8) (e : Ending) (w' : World) : Prop :=
  (readE b = 0 ∧ ∃ U, e = .returned (.tuple #[.agg #[.int .u8 ((readK b).toNat : Int), U], .int .i64 ((readN b : Int) + 9), .int .i64 0]) ∧ BytesIn w' (fun x => w.heap.size ≤ x) U (readB b) ∧ Below w.heap.size w w') ∨
  (readE b ≠ 0 ∧ e = .returned (.tuple #[.agg #[.int .u8 0, .slice none 0 0], .int .i64 0, .int .i64 (readE b : Int)]) ∧ Below w.heap.size w w')
theorem set2 {w : World} {g : Nat} {a b x y : Value} {t : TypeId} (h : w.heap[g]? = some (.cells #[a, b] t (0, 0))) : ∃ W, (w.setCell ⟨g, 0, none⟩ x).setCell ⟨g, 1, none⟩ y = W ∧ W.heap[g]? = some (.cells #[x, y] t (0, 0)) ∧ Chg (· = g) w W := by
  have h1 := heap_set_cells (i := 0) x h
  have h2 := heap_set_cells (i := 1) y h1
  have c1 : Chg (· = g) w (w.setCell ⟨g, 0, none⟩ x) := Chg.set _ rfl
  have c2 : Chg (· = g) (w.setCell ⟨g, 0, none⟩ x) ((w.setCell ⟨g, 0, none⟩ x).setCell ⟨g, 1, none⟩ y) := Chg.set _ rfl
  exact ⟨_, rfl, by simpa using h2, c1.trans c2 (fun _ h _ => h)⟩
set_option maxRecDepth 100000 in
set_option maxHeartbeats 4000000 in
theorem recRead_any {w : World} {a : Option Addr} {c : Nat} {b : List UInt8} (hrow : RowAt w a (b.map bv)) (hnil : a = none → c = 0) (hcap : b.length ≤ c) (hl : b.length ≤ 140737488350000) :
    Calls Tryz.prog 42 #[.slice a b.length c] w (RecPost w b) := by
  obtain ⟨w1, hw1⟩ : ∃ w1, w.alloc (.cells #[.int .u8 0, .slice none 0 0] 94) = w1 := ⟨_, rfl⟩
  have hb1 : Below w.heap.size w w1 := by rw [← hw1]; exact below_alloc w _
  have hz1 : w1.heap.size = w.heap.size + 1 := by rw [← hw1]; simp
  have hx0 : w1.heap[w.heap.size]? = some (.cells #[.int .u8 0, .slice none 0 0] 94 (0, 0)) := by rw [← hw1]; exact World.alloc_heap_new w _
  have hR := read_any (hrow.below hb1) hnil hcap hl
  have HW := Lib.hid hw1
  have HZ := Lib.hid hz1
  have HX := Lib.hid hx0
  clear hw1 hz1 hx0 hrow
  go_enter Tryz.func42, Tryz.ntmps42
  go_wp2_with (first | rw [HW.out] | (go_at_call 77; refine hR.mono ?_; rintro e1 w2 hP; obtain ⟨k, U, n, er, rfl, hb2, hfin⟩ : ∃ (k : Int) (U : Value) (n er : Int), e1 = .returned (.tuple #[.agg #[.int .u8 k, U, .int .i64 n], .int .i64 er]) ∧ Below w1.heap.size w1 w2 ∧ ((readE b = 0 ∧ k = (readK b).toNat ∧ n = (readN b : Int) + 9 ∧ er = 0 ∧ BytesIn w2 (fun x => w1.heap.size ≤ x) U (readB b)) ∨ (readE b ≠ 0 ∧ k = 0 ∧ U = .slice none 0 0 ∧ n = 0 ∧ er = (readE b : Int))) := (by rcases hP with ⟨h0, U, he, hU, hb⟩ | ⟨h0, he, hb⟩; exact ⟨_, _, _, _, he, hb, .inl ⟨h0, rfl, rfl, rfl, hU⟩⟩; exact ⟨_, _, _, _, he, hb, .inr ⟨h0, rfl, rfl, rfl, rfl⟩⟩); clear hP; obtain ⟨ua, un, uc, rfl⟩ : ∃ ua un uc, U = .slice ua un uc := (by rcases hfin with ⟨_, _, _, _, hU⟩ | ⟨_, _, hU, _⟩; obtain ⟨ua, uc, rfl, _⟩ := hU.row; exact ⟨_, _, _, rfl⟩; exact ⟨_, _, _, hU⟩)))
  obtain ⟨w3, hw3⟩ : ∃ w3, w2.alloc (.cells #[.int .u8 k, .slice ua un uc, .int .i64 n] 169) = w3 := ⟨_, rfl⟩
  have hb3 : Below w2.heap.size w2 w3 := by rw [← hw3]; exact below_alloc w2 _
  have hx3 : w3.heap[w2.heap.size]? = some (.cells #[.int .u8 k, .slice ua un uc, .int .i64 n] 169 (0, 0)) := by rw [← hw3]; exact World.alloc_heap_new w2 _
  have hs1 := hb1.size
  have hs2 := hb2.size
  have hz1 := HZ.out
  have hb13 : Below w1.heap.size w1 w3 := hb2.trans (hb3.mono hs2)
  have hx03 := (hb13.block _ (by omega)).trans HX.out
  have c0 := cell_of_heap hx3 (i := 0) (v := .int .u8 k) (by rfl)
  have c1 := cell_of_heap hx3 (i := 1) (v := .slice ua un uc) (by rfl)
  have c2 := cell_of_heap hx3 (i := 2) (v := .int .i64 n) (by rfl)
  have d0 := cell_of_heap hx03 (i := 0) (v := .int .u8 0) (by rfl)
  have d1 := cell_of_heap hx03 (i := 1) (v := .slice none 0 0) (by rfl)
  have z0 := frozen_of_heap (i := 0) hx03
  have z1 := frozen_of_heap (i := 1) hx03
  have hne : w.heap.size ≠ w2.heap.size := by omega
  have HF := Lib.hid hfin
  have HB := Lib.hid (And.intro hb1 hb13)
  have HB3 := Lib.hid hb3
  have HX3 := Lib.hid hx03
  rw [hw3]
  clear hw3 hfin hb3 hx3 hb13 hb2 hs1 hs2 hz1
  go_region
  all_goals
    clear c0 c1 c2 d0 d1 z0 z1
    go_wp2
    obtain ⟨W, hW, hx, hcW⟩ := set2 (x := .int .u8 k) (y := .slice ua un uc) HX3.out
    rw [hW]
    have d0 := cell_of_heap hx (i := 0) (v := .int .u8 k) (by rfl)
    have d1 := cell_of_heap hx (i := 1) (v := .slice ua un uc) (by rfl)
    have hbW : Below w.heap.size w W.drew := by
      have h1 := Chg.ret (HB.out.1.trans (HB.out.2.mono HB.out.1.size)) (Nat.le_refl _) hcW
      exact ⟨h1.os, h1.tape, h1.output, h1.size, h1.block⟩
    refine bodyPost_ret (v := .tuple #[.agg #[.int .u8 k, .slice ua un uc], .int .i64 n, .int .i64 er]) (by simp [results, Tryz.results42, go_sem, d0, d1]) rfl ?_
    have hs1 := HB.out.1.size
    have hz1 := HZ.out
    rcases HF.out with ⟨h0, rfl, rfl, rfl, hU⟩ | ⟨h0, rfl, e1, rfl, rfl⟩
    · have hcd : Chg (· = w.heap.size) w2 W.drew := ((Chg.of_below HB3.out).trans hcW (fun _ h _ => h)).drew
      exact .inl ⟨h0, _, rfl, hU.kept hcd (fun x hx e => by omega) (fun x hx => by omega), hbW⟩
    · cases e1
      exact .inr ⟨h0, rfl, hbW⟩

end Go.Proofs.YtlmdpcaikhdenaaGreat
