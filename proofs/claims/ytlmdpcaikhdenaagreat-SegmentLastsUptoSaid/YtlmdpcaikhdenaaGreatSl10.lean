/- Texts of this claim, one behind the other: SgP. -/
import Derived.Test.YtlmdpcaikhdenaaGreatSl09
import Derived.Deep.CutRange
import Derived.Deep.CutBlock
set_option linter.unusedSimpArgs false
set_option linter.unusedVariables false
/- Segment: Decode. (printed by gen/sdec.py) -/
namespace Go.Proofs.YtlmdpcaikhdenaaGreat
open Go.RowKit Go.Maps

/-- what Decode answers of bytes, from a number on that may be one's -/
def DecPost (w : World) (f : Nat) (b : List UInt8) (e : Ending) (w' : World) : Prop :=
  ∃ es, e = .returned (.tuple #[.agg #[.int .i64 (f : Int), es, .int .i64 ((segL f b).good : Int), .int .i64 (b.length : Int), .int .i64 ((segL f b).why : Int)], .int .i64 0]) ∧ EntIn (fun x => w.heap.size ≤ x) w' es (segL f b).entries ∧ Below w.heap.size w w'
/-- the loop's state: so many bytes are good -/
def DecAt (w wr : World) (f : Nat) (b : List UInt8) (L : List (List UInt8)) (gd : Nat) (ea : Option Addr) (ec : Nat) : Prop :=
  wr.heap[w.heap.size]? = some (.cells #[.int .i64 0, .slice none 0 0, .int .i64 0, .int .i64 0, .int .i64 0] 42 (0, 0)) ∧
  wr.heap[w.heap.size + 1]? = some (.cells #[.int .i64 (f : Int), .slice ea L.length ec, .int .i64 (gd : Int), .int .i64 (b.length : Int), .int .i64 0] 42 (0, 0)) ∧
  EntIn (fun x => w.heap.size + 1 < x) wr (.slice ea L.length ec) L ∧ Below w.heap.size w wr ∧ (∃ q, b.length - gd ≤ q ∧ segFrom f b q ⟨L, gd, 0⟩ = segL f b) ∧ L.length ≤ 4096 ∧ gd ≤ b.length
theorem decExit {w W : World} {f gd : Nat} {b : List UInt8} {L : List (List UInt8)} {ea : Option Addr} {ec : Nat} {why : Int} (p4 : W.heap[w.heap.size]? = some (.cells #[.int .i64 0, .slice none 0 0, .int .i64 0, .int .i64 0, .int .i64 0] 42 (0, 0))) (p6 : W.heap[w.heap.size + 1]? = some (.cells #[.int .i64 (f : Int), .slice ea L.length ec, .int .i64 (gd : Int), .int .i64 (b.length : Int), .int .i64 0] 42 (0, 0)))
    (hb : Below w.heap.size w W) (he : EntIn (fun x => w.heap.size + 1 < x) W (.slice ea L.length ec) L) : ∃ X, W.setCell ⟨w.heap.size + 1, 4, none⟩ (.int .i64 why) = X ∧ X.heap[w.heap.size]? = some (.cells #[.int .i64 0, .slice none 0 0, .int .i64 0, .int .i64 0, .int .i64 0] 42 (0, 0)) ∧ X.heap[w.heap.size + 1]? = some (.cells #[.int .i64 (f : Int), .slice ea L.length ec, .int .i64 (gd : Int), .int .i64 (b.length : Int), .int .i64 why] 42 (0, 0)) ∧ Below w.heap.size w X ∧ EntIn (fun x => w.heap.size + 1 < x) X (.slice ea L.length ec) L := by
  have q6 := heap_set_cells (i := 4) (.int .i64 why) p6
  have hs6 : Chg (· = w.heap.size + 1) W (W.setCell ⟨w.heap.size + 1, 4, none⟩ (.int .i64 why)) := Chg.set _ rfl
  exact ⟨_, rfl, hs6.obj p4 (by omega), q6, Chg.ret hb (Nat.le_succ _) hs6, he.kept hs6 (fun x hx e => by omega) (fun x hx => hx)⟩
set_option maxRecDepth 100000 in
set_option maxHeartbeats 16000000 in
theorem decode_any {w : World} {f : Nat} (hf : f ≤ 4611686018427387904) {a : Option Addr} {c : Nat} {b : List UInt8} (hrow : RowAt w a (b.map bv)) (hnil : a = none → c = 0) (hcap : b.length ≤ c) (hl : b.length ≤ 140737488350000) :
    Calls Tryz.prog 14 #[.int .i64 (f : Int), .slice a b.length c] w (DecPost w f b) := by
  have hmax : maxLen = 9223372036854775807 := rfl
  obtain ⟨i0, hi, hz0, hz1, hz2⟩ := info_parts Tryz.info26
  obtain ⟨w1, hw1⟩ : ∃ w1, (w.alloc (.cells #[.int .i64 0, .slice none 0 0, .int .i64 0, .int .i64 0, .int .i64 0] 42)).alloc (.cells #[.int .i64 (f : Int), .slice none 0 0, .int .i64 0, .int .i64 (b.length : Int), .int .i64 0] 42) = w1 := ⟨_, rfl⟩
  have hb1 : Below w.heap.size w w1 := by rw [← hw1]; exact (below_alloc w _).alloc (by simp) _
  have hx0 : w1.heap[w.heap.size]? = some (.cells #[.int .i64 0, .slice none 0 0, .int .i64 0, .int .i64 0, .int .i64 0] 42 (0, 0)) := by rw [← hw1]; exact (Below.heap_alloc _ _ _ (by simp)).trans (World.alloc_heap_new w _)
  have hx1 : w1.heap[w.heap.size + 1]? = some (.cells #[.int .i64 (f : Int), .slice none 0 0, .int .i64 0, .int .i64 (b.length : Int), .int .i64 0] 42 (0, 0)) := by rw [← hw1]; have := World.alloc_heap_new (w.alloc (.cells #[.int .i64 0, .slice none 0 0, .int .i64 0, .int .i64 0, .int .i64 0] 42)) (.cells #[.int .i64 (f : Int), .slice none 0 0, .int .i64 0, .int .i64 (b.length : Int), .int .i64 0] 42); rwa [World.size_alloc] at this
  have hst : DecAt w w1 f b [] 0 none 0 := ⟨hx0, hx1, EntIn.nil _ _, hb1, ⟨b.length, by omega, rfl⟩, by simp, by omega⟩
  have g1 : decide ((f : Int) < 0) = false := by simp
  have g2 : decide ((4611686018427387904 : Int) < (f : Int)) = false := by simp; omega
  have HW := Lib.hid hw1
  clear hw1 hx0 hx1 hb1
  go_enter Tryz.func14, Tryz.ntmps14
  go_wp2
  go_step3
  go_wp2_with (rw [HW.out])
  go_step3
  go_wp2
  go_loopw [] (fun wr => ∃ L gd ea ec, DecAt w wr f b L gd ea ec) (fun wr => match wr.cell? ⟨w.heap.size + 1, 2, none⟩ with | some v => b.length - (intOf v).toNat | none => 0)
  case atStart => exact ⟨[], 0, none, 0, hst⟩
  case round =>
    obtain ⟨L, gd, ea, ec, k4, k6, hent, hbw, ⟨q, hq, hsf⟩, hL4, hgd⟩ := hrel
    have c0 := cell_of_heap k6 (i := 0) (v := .int .i64 (f : Int)) (by rfl)
    have c1 := cell_of_heap k6 (i := 1) (v := .slice ea L.length ec) (by rfl)
    have c2 := cell_of_heap k6 (i := 2) (v := .int .i64 (gd : Int)) (by rfl)
    have c3 := cell_of_heap k6 (i := 3) (v := .int .i64 (b.length : Int)) (by rfl)
    have c4 := cell_of_heap k6 (i := 4) (v := .int .i64 0) (by rfl)
    have cz0 := frozen_of_heap (i := 0) k6
    have cz1 := frozen_of_heap (i := 1) k6
    have cz2 := frozen_of_heap (i := 2) k6
    have cz3 := frozen_of_heap (i := 3) k6
    have cz4 := frozen_of_heap (i := 4) k6
    by_cases hlt : gd < b.length
    · have g3 : decide (gd < b.length) = true := by simpa using hlt
      by_cases h96 : L.length = 4096
      · have hat : atE f b ⟨L, gd, 0⟩ = 5 := by unfold atE; rw [if_pos h96]
        have hsg : segL f b = ⟨L, gd, 5⟩ := by rw [← hsf, segFrom_stop f b q _ hlt (by rw [hat]; decide) (by simp at hq ⊢; omega), hat]
        have HSG := Lib.hid hsg
        have h96' : ((L.length : Int) == 4096) = true := by simp; omega
        have K4 := Lib.hid k4
        have K6 := Lib.hid k6
        have HE := Lib.hid hent
        have HBW := Lib.hid hbw
        clear hsf hat hsg hlt h96 hq k4 k6 hent hbw
        go_upto_region 17 with fail
        have q6 := heap_set_cells (i := 4) (.int .i64 5) K6.out
        have q6 : (wr.setCell ⟨w.heap.size + 1, 4, none⟩ (.int .i64 5)).heap[w.heap.size + 1]? = some (.cells #[.int .i64 (f : Int), .slice ea L.length ec, .int .i64 (gd : Int), .int .i64 (b.length : Int), .int .i64 5] 42 (0, 0)) := q6
        have hs6 : Chg (· = w.heap.size + 1) wr (wr.setCell ⟨w.heap.size + 1, 4, none⟩ (.int .i64 5)) := Chg.set _ rfl
        have q4 := hs6.obj K4.out (by omega)
        have hbX := Chg.ret HBW.out (Nat.le_succ _) hs6
        have hentX := HE.out.kept (R' := fun x => w.heap.size + 1 < x) hs6 (fun x hx e => by omega) (fun x hx => hx)
        clear c0 cz0 c1 cz1 c2 cz2 c3 cz3 c4 cz4
        generalize wr.setCell ⟨w.heap.size + 1, 4, none⟩ (.int .i64 5) = X at *
        have t0 := cell_of_heap q6 (i := 0) (v := .int .i64 (f : Int)) (by rfl)
        have t1 := cell_of_heap q6 (i := 1) (v := .slice ea L.length ec) (by rfl)
        have t2 := cell_of_heap q6 (i := 2) (v := .int .i64 (gd : Int)) (by rfl)
        have t3 := cell_of_heap q6 (i := 3) (v := .int .i64 (b.length : Int)) (by rfl)
        have t4 := cell_of_heap q6 (i := 4) (v := .int .i64 5) (by rfl)
        have r0 := cell_of_heap q4 (i := 0) (v := .int .i64 0) (by rfl)
        have r1 := cell_of_heap q4 (i := 1) (v := .slice none 0 0) (by rfl)
        have r2 := cell_of_heap q4 (i := 2) (v := .int .i64 0) (by rfl)
        have r3 := cell_of_heap q4 (i := 3) (v := .int .i64 0) (by rfl)
        have r4 := cell_of_heap q4 (i := 4) (v := .int .i64 0) (by rfl)
        have rz0 := frozen_of_heap (i := 0) q4
        have rz1 := frozen_of_heap (i := 1) q4
        have rz2 := frozen_of_heap (i := 2) q4
        have rz3 := frozen_of_heap (i := 3) q4
        have rz4 := frozen_of_heap (i := 4) q4
        have HK4 := Lib.hid q4
        go_wp2_with fail
        obtain ⟨Y, hY, hyx, hcY⟩ := set5 (x := .int .i64 (f : Int)) (y := .slice ea L.length ec) (z := .int .i64 (gd : Int)) (u := .int .i64 (b.length : Int)) (v := .int .i64 5) HK4.out
        rw [hY]
        have y0 := cell_of_heap hyx (i := 0) (v := .int .i64 (f : Int)) (by rfl)
        have y1 := cell_of_heap hyx (i := 1) (v := .slice ea L.length ec) (by rfl)
        have y2 := cell_of_heap hyx (i := 2) (v := .int .i64 (gd : Int)) (by rfl)
        have y3 := cell_of_heap hyx (i := 3) (v := .int .i64 (b.length : Int)) (by rfl)
        have y4 := cell_of_heap hyx (i := 4) (v := .int .i64 5) (by rfl)
        have hsg : segL f b = ⟨L, gd, 5⟩ := HSG.out
        rw [Exit.noGoto_ret]
        refine bodyPost_ret (v := .tuple #[.agg #[.int .i64 (f : Int), .slice ea L.length ec, .int .i64 (gd : Int), .int .i64 (b.length : Int), .int .i64 5], .int .i64 0]) (by simp [results, Tryz.results14, go_sem, y0, y1, y2, y3, y4]) rfl ?_
        rw [DecPost, hsg]
        exact ⟨_, rfl, hentX.kept hcY (fun x hx e => by omega) (fun x hx => by omega), Chg.ret hbX (Nat.le_refl _) hcY⟩
      · have h96' : ((L.length : Int) == 4096) = false := by simp; omega
        have hsl := run_slice_lo (P := Tryz.prog) 26 5 Tryz.underlying26 Tryz.sizeOf5 a b.length c gd hgd
        have hln : (b.drop gd).length = b.length - gd := by simp
        have hRd := recRead_any (w := wr) (a := subAt a c gd) (c := c - gd) (b := b.drop gd) (by rw [List.map_drop]; exact (hrow.below hbw).drop c gd (by simpa using hcap)) (fun e => by have := hnil (subAt_none.1 e); omega) (by omega) (by omega)
        rw [hln] at hRd
        have K4 := Lib.hid k4
        have K6 := Lib.hid k6
        have HE := Lib.hid hent
        have HBW := Lib.hid hbw
        have HL := Lib.hid hln
        have HLT := Lib.hid hlt
        have HSF := Lib.hid (And.intro hq hsf)
        have H96 := Lib.hid h96
        clear hln hlt hsf hq k4 k6 hent hbw h96
        by_cases hre : readE (b.drop gd) = 0
        · -- a frame is there
          obtain ⟨kd, hkd⟩ : ∃ kd, readK (b.drop gd) = kd := ⟨_, rfl⟩
          obtain ⟨N, hN⟩ : ∃ N, readN (b.drop gd) = N := ⟨_, rfl⟩
          obtain ⟨BL, hBL⟩ : ∃ BL, readB (b.drop gd) = BL := ⟨_, rfl⟩
          have hNl := readE_len hre
          rw [hN, HL.out] at hNl
          have hBLl : BL.length ≤ 8388608 := by
            rw [← hBL]; unfold readB
            have := (readE_ok hre).2.2.2.1
            have h2 : ((List.drop 5 (b.drop gd)).take (readN (b.drop gd))).length ≤ readN (b.drop gd) := List.length_take_le _ _
            omega
          have hRd3 : Calls Tryz.prog 42 #[.slice (subAt a c gd) (b.length - gd) (c - gd)] wr fun e w' => ∃ ua uc, e = .returned (.tuple #[.agg #[.int .u8 (kd.toNat : Int), .slice ua BL.length uc], .int .i64 ((N : Int) + 9), .int .i64 0]) ∧ BytesIn w' (fun x => wr.heap.size ≤ x) (.slice ua BL.length uc) BL ∧ Below wr.heap.size wr w' := hRd.mono fun e w' h => by
            rcases h with ⟨_, U, h1, hU, h2⟩ | ⟨h, _⟩
            · rw [hkd, hN] at h1
              rw [hBL] at hU
              obtain ⟨ua, uc, rfl, _⟩ := hU.row
              exact ⟨ua, uc, h1, hU, h2⟩
            · exact absurd hre h
          have hkd0 := kd.toNat_lt
          clear hRd
          by_cases h101 : kd = 101
          · have gk : ((kd.toNat : Int) != 101) = false := by rw [h101]; rfl
            have hTk : ∀ (W : World) (ua : Option Addr) (uc : Nat), RowAt W ua (BL.map bv) ∧ (ua = none → uc = 0) → Calls Tryz.prog 43 #[.slice ua BL.length uc] W (TakePost W BL) := fun W ua uc h => take_any h.1 h.2 (by omega)
            by_cases htk : takeOk BL = true
            · obtain ⟨tn, htn⟩ : ∃ tn, takeN BL = tn := ⟨_, rfl⟩
              have htnl : tn ≤ 4611686018427387904 := by rw [← htn]; exact ((takeOk_iff BL).1 htk).2.2.2
              obtain ⟨tb, htb⟩ : ∃ tb, takeB BL = tb := ⟨_, rfl⟩
              have hTk : ∀ (W : World) (ua : Option Addr) (uc : Nat), RowAt W ua (BL.map bv) ∧ (ua = none → uc = 0) → Calls Tryz.prog 43 #[.slice ua BL.length uc] W fun e w' => ∃ ta tc, e = .returned (.tuple #[.int .i64 (tn : Int), .slice ta tb.length tc, .int .i64 0]) ∧ BytesIn w' (fun x => W.heap.size ≤ x) (.slice ta tb.length tc) tb ∧ Below W.heap.size W w' := fun W ua uc h => (hTk W ua uc h).mono fun e w' h => by
                rcases h with ⟨_, U, h1, h2, h3⟩ | ⟨h, _⟩
                · rw [htn] at h1
                  rw [htb] at h2
                  obtain ⟨ta, tc, rfl, _⟩ := h2.row
                  exact ⟨ta, tc, h1, h2, h3⟩
                · rw [htk] at h; cases h
              have hsum : IntKind.i64.wrap ((f : Int) + (L.length : Int)) = (f : Int) + (L.length : Int) := Go.IntWalk.i64_in _ (by omega)
              by_cases hnum : tn = f + L.length
              · have gn : ((tn : Int) != (f : Int) + (L.length : Int)) = false := by simp; omega
                have hstep : ∃ q', b.length - (gd + (N + 9)) ≤ q' ∧ segFrom f b q' ⟨L ++ [tb], gd + (N + 9), 0⟩ = segL f b := by
                  have hat : atE f b ⟨L, gd, 0⟩ = 0 := by
                    unfold atE
                    rw [if_neg H96.out, if_neg (by simpa using hre), if_neg (by rw [hkd]; simpa using h101), if_neg (by rw [hBL, htn]; rintro (h | h); exact absurd htk (by rw [h]; decide); exact h hnum)]
                  obtain ⟨h1, h2⟩ := HSF.out
                  have hlt := HLT.out
                  cases q with
                  | zero => omega
                  | succ q =>
                    rw [segFrom_on f b q _ hlt hat] at h2
                    have hnx : segNext b ⟨L, gd, 0⟩ = ⟨L ++ [tb], gd + (N + 9), 0⟩ := by unfold segNext; rw [hBL, hN, htb]
                    rw [hnx] at h2
                    exact ⟨q, by omega, h2⟩
                have HST := Lib.hid hstep
                have hgN0 : (0 : Int) ≤ (gd : Int) + ((N : Int) + 9) := by omega
                have hgN1 : (gd : Int) + ((N : Int) + 9) ≤ 140737488350000 := by omega
                have hgN2 : gd + (N + 9) ≤ b.length := by omega
                have HGN := Lib.hid hgN2
                have H41 := Lib.hid (show (L ++ [tb]).length ≤ 4096 by have := H96.out; simp; omega)
                have HMR := Lib.hid c2
                clear hstep hre hkd hN hBL h101 htk htn htb hnum hgN2
                go_wp2_with (first
                  | rw [HW3.out]
                  | (go_at_call 42; refine hRd3.mono ?_; rintro _ w2 ⟨ua, uc, rfl, hU, hb2⟩; clear c0 cz0 c1 cz1 c2 cz2 c3 cz3 c4 cz4; obtain ⟨w3, hw3⟩ : ∃ w3, w2.alloc (.cells #[.int .u8 (kd.toNat : Int), .slice ua BL.length uc] 94) = w3 := ⟨_, rfl⟩; have hb3 : Below w2.heap.size w2 w3 := (by rw [← hw3]; exact below_alloc w2 _); have hb23 := hb2.trans (hb3.mono hb2.size); have hx3 : w3.heap[w2.heap.size]? = some (.cells #[.int .u8 (kd.toNat : Int), .slice ua BL.length uc] 94 (0, 0)) := (by rw [← hw3]; exact World.alloc_heap_new w2 _); have p4 := (hb23.block _ (heap_lt K4.out)).trans K4.out; have p6 := (hb23.block _ (heap_lt K6.out)).trans K6.out; obtain ⟨_, _, e9, _, hun, hur⟩ := hU.row; cases e9; have hT9 := hTk w3 ua uc ⟨hur.below hb3, hun⟩; have x0 := cell_of_heap hx3 (i := 0) (v := .int .u8 (kd.toNat : Int)) (by rfl); have x1 := cell_of_heap hx3 (i := 1) (v := .slice ua BL.length uc) (by rfl); have c0 := cell_of_heap p6 (i := 0) (v := .int .i64 (f : Int)) (by rfl); have c1 := cell_of_heap p6 (i := 1) (v := .slice ea L.length ec) (by rfl); have c2 := cell_of_heap p6 (i := 2) (v := .int .i64 (gd : Int)) (by rfl); have c3 := cell_of_heap p6 (i := 3) (v := .int .i64 (b.length : Int)) (by rfl); have c4 := cell_of_heap p6 (i := 4) (v := .int .i64 0) (by rfl); have cz0 := frozen_of_heap (i := 0) p6; have cz1 := frozen_of_heap (i := 1) p6; have cz2 := frozen_of_heap (i := 2) p6; have cz3 := frozen_of_heap (i := 3) p6; have cz4 := frozen_of_heap (i := 4) p6; have HW3 := Lib.hid hw3; have HP4 := Lib.hid p4; have HP6 := Lib.hid p6; have HB23 := Lib.hid hb23; clear p4 p6 hw3 hx3 hur hun hb3 hb23)
                  | (go_at_call 43; refine hT9.mono ?_; rintro _ w4 ⟨ta, tc, rfl, hV, hb4⟩; clear c0 cz0 c1 cz1 c2 cz2 c3 cz3 c4 cz4; have p4 := (hb4.block _ (heap_lt HP4.out)).trans HP4.out; have p6 := (hb4.block _ (heap_lt HP6.out)).trans HP6.out; have c0 := cell_of_heap p6 (i := 0) (v := .int .i64 (f : Int)) (by rfl); have c1 := cell_of_heap p6 (i := 1) (v := .slice ea L.length ec) (by rfl); have c2 := cell_of_heap p6 (i := 2) (v := .int .i64 (gd : Int)) (by rfl); have c3 := cell_of_heap p6 (i := 3) (v := .int .i64 (b.length : Int)) (by rfl); have c4 := cell_of_heap p6 (i := 4) (v := .int .i64 0) (by rfl); have cz0 := frozen_of_heap (i := 0) p6; have cz1 := frozen_of_heap (i := 1) p6; have cz2 := frozen_of_heap (i := 2) p6; have cz3 := frozen_of_heap (i := 3) p6; have cz4 := frozen_of_heap (i := 4) p6; have HT4 := Lib.hid p4; have HT6 := Lib.hid p6; have HR4 := Lib.hid (heap_lt p6); obtain ⟨vs, r1, r2, r3, r4⟩ := (HE.out.below HB23.out).below hb4; have hbd4 := heap_lt HT6.out; clear p4 p6 x0 x1)
                  | (at_builtin; refine wpList_append_own_at _ rfl (.tmp 73) (.tmp 75) 22 rfl 0 26 i0 (.slice none 0 0) 1 24 Tryz.underlying22 hi hz0 hz1 hz2 rfl (by decide) _ _ _ rfl (r1.alloc _) ⟨w4.heap.size, 0, none⟩ 1 1 [.slice ta tb.length tc] rfl rfl (cell_one_new _ _ _) (by simp [Value.oneCell']) (by omega) (by omega) (Nat.zero_le _) ?_; intro v5 w5 r5 hg5 _ hat5; obtain ⟨ya, yc, rfl, _, _⟩ := RowAt.of_owns r5; have hgr : Grew (.slice ea L.length ec) (w4.alloc (.cells #[.slice ta tb.length tc] 26)) (.slice ya (L.length + 1) yc) w5 := Grew.append hg5 hat5; have hgc : Chg (fun x => (Value.slice ea L.length ec).ownBlock = some x) w4 w5 := (Chg.alloc _ w4 _).trans hgr.1 (fun _ h _ => h); clear c0 cz0 c1 cz1 c2 cz2 c3 cz3 c4 cz4; have p4 := hgc.obj HT4.out (fun e => by have := r2 _ e; omega); have p6 := hgc.obj HT6.out (fun e => by have := r2 _ e; omega); have c0 := cell_of_heap p6 (i := 0) (v := .int .i64 (f : Int)) (by rfl); have c1 := cell_of_heap p6 (i := 1) (v := .slice ea L.length ec) (by rfl); have c2 := cell_of_heap p6 (i := 2) (v := .int .i64 (gd : Int)) (by rfl); have c3 := cell_of_heap p6 (i := 3) (v := .int .i64 (b.length : Int)) (by rfl); have c4 := cell_of_heap p6 (i := 4) (v := .int .i64 0) (by rfl); have cz0 := frozen_of_heap (i := 0) p6; have cz1 := frozen_of_heap (i := 1) p6; have cz2 := frozen_of_heap (i := 2) p6; have cz3 := frozen_of_heap (i := 3) p6; have cz4 := frozen_of_heap (i := 4) p6; have hbd5 := heap_lt p6; have HP54 := Lib.hid p4; have HP56 := Lib.hid p6; clear p4 p6))
                have q1 := heap_set_cells (i := 1) (.slice ya (L.length + 1) yc) HP56.out
                have q2 := heap_set_cells (i := 2) (.int .i64 ((gd : Int) + ((N : Int) + 9))) q1
                have s1 : Chg (· = w.heap.size + 1) w5 (w5.setCell ⟨w.heap.size + 1, 1, none⟩ (.slice ya (L.length + 1) yc)) := Chg.set _ rfl
                have s2 : Chg (· = w.heap.size + 1) (w5.setCell ⟨w.heap.size + 1, 1, none⟩ (.slice ya (L.length + 1) yc)) ((w5.setCell ⟨w.heap.size + 1, 1, none⟩ (.slice ya (L.length + 1) yc)).setCell ⟨w.heap.size + 1, 2, none⟩ (.int .i64 ((gd : Int) + ((N : Int) + 9)))) := Chg.set _ rfl
                have s12 := s1.trans s2 (fun _ h _ => h)
                obtain ⟨X, hX⟩ : ∃ X, (w5.setCell ⟨w.heap.size + 1, 1, none⟩ (.slice ya (L.length + 1) yc)).setCell ⟨w.heap.size + 1, 2, none⟩ (.int .i64 ((gd : Int) + ((N : Int) + 9))) = X := ⟨_, rfl⟩
                rw [hX] at q2 s12 ⊢
                have z4 := HBW.out.size
                have z3 := HB23.out.size
                have zz4 := hb4.size
                have zz5 := hgc.size
                have zr := heap_lt K6.out
                have hpush := EntIn.push (R := fun x => w.heap.size + 1 < x) r1 r2 r3 r4 (hV.kept (R' := fun x => w.heap.size + 1 < x) (Chg.refl (fun _ => False) _) (fun _ _ h => h) (fun x hx => by omega)) (Chg.alloc _ w4 _) r5 hgr
                  (fun b' cs fr hb' hcs => by
                    obtain ⟨cs2, fr2, h2⟩ := ownsRow_ty (r1.alloc (.cells #[.slice ta tb.length tc] 26)) hb'
                    rw [h2] at hcs
                    simp only [Option.some.injEq, Obj.cells.injEq] at hcs
                    exact absurd hcs.2.1 (by decide))
                  (fun x hx => by simp at hx; omega)
                have hpX := hpush.kept (R' := fun x => w.heap.size + 1 < x) s12 (fun x hx e => by omega) (fun _ h => h)
                have hlen : (L ++ [tb]).length = L.length + 1 := by simp
                have hb45 : Below w.heap.size w w4 := HBW.out.trans ((HB23.out.trans (hb4.mono z3)).mono z4)
                have hb5 : Below w.heap.size w w5 := hb45.trans (hgc.belowLo6 hb45.size (fun x hx => by have := r2 x hx; omega))
                have hcn : ((gd + (N + 9) : Nat) : Int) = (gd : Int) + ((N : Int) + 9) := by omega
                have hMX : X.cell? ⟨w.heap.size + 1, 2, none⟩ = some (.int .i64 ((gd : Int) + ((N : Int) + 9))) := cell_of_heap q2 (i := 2) rfl
                refine ⟨⟨L ++ [tb], gd + (N + 9), ya, yc, ?_⟩, ?_⟩
                · refine ⟨s12.obj HP54.out (by omega), ?_, by rw [hlen]; exact hpX, Chg.ret hb5 (Nat.le_succ _) s12, HST.out, H41.out, HGN.out⟩
                  rw [hlen, hcn]
                  exact q2
                · rw [hMX, HMR.out]
                  have := HLT.out
                  simp only [intOf]
                  omega
              · have gn : ((tn : Int) != (f : Int) + (L.length : Int)) = true := by simp; omega
                have hat : atE f b ⟨L, gd, 0⟩ = 250 := by unfold atE; rw [if_neg H96.out, if_neg (by simpa using hre), if_neg (by rw [hkd]; simpa using h101), if_pos (.inr (by rw [hBL, htn]; exact hnum))]
                have hsg : segL f b = ⟨L, gd, 250⟩ := by rw [← HSF.out.2, segFrom_stop f b q _ HLT.out (by rw [hat]; decide) (by have := HSF.out.1; have := HLT.out; simp at *; omega), hat]
                have HSG := Lib.hid hsg
                clear hat hsg hre hkd hN hBL h101 htk htn htb hnum
                go_upto_region 17 with (first
                  | rw [HW3.out]
                  | (go_at_call 42; refine hRd3.mono ?_; rintro _ w2 ⟨ua, uc, rfl, hU, hb2⟩; clear c0 cz0 c1 cz1 c2 cz2 c3 cz3 c4 cz4; obtain ⟨w3, hw3⟩ : ∃ w3, w2.alloc (.cells #[.int .u8 (kd.toNat : Int), .slice ua BL.length uc] 94) = w3 := ⟨_, rfl⟩; have hb3 : Below w2.heap.size w2 w3 := (by rw [← hw3]; exact below_alloc w2 _); have hb23 := hb2.trans (hb3.mono hb2.size); have hx3 : w3.heap[w2.heap.size]? = some (.cells #[.int .u8 (kd.toNat : Int), .slice ua BL.length uc] 94 (0, 0)) := (by rw [← hw3]; exact World.alloc_heap_new w2 _); have p4 := (hb23.block _ (heap_lt K4.out)).trans K4.out; have p6 := (hb23.block _ (heap_lt K6.out)).trans K6.out; obtain ⟨_, _, e9, _, hun, hur⟩ := hU.row; cases e9; have hT9 := hTk w3 ua uc ⟨hur.below hb3, hun⟩; have x0 := cell_of_heap hx3 (i := 0) (v := .int .u8 (kd.toNat : Int)) (by rfl); have x1 := cell_of_heap hx3 (i := 1) (v := .slice ua BL.length uc) (by rfl); have c0 := cell_of_heap p6 (i := 0) (v := .int .i64 (f : Int)) (by rfl); have c1 := cell_of_heap p6 (i := 1) (v := .slice ea L.length ec) (by rfl); have c2 := cell_of_heap p6 (i := 2) (v := .int .i64 (gd : Int)) (by rfl); have c3 := cell_of_heap p6 (i := 3) (v := .int .i64 (b.length : Int)) (by rfl); have c4 := cell_of_heap p6 (i := 4) (v := .int .i64 0) (by rfl); have cz0 := frozen_of_heap (i := 0) p6; have cz1 := frozen_of_heap (i := 1) p6; have cz2 := frozen_of_heap (i := 2) p6; have cz3 := frozen_of_heap (i := 3) p6; have cz4 := frozen_of_heap (i := 4) p6; have HW3 := Lib.hid hw3; have HP4 := Lib.hid p4; have HP6 := Lib.hid p6; have HB23 := Lib.hid hb23; clear p4 p6 hw3 hx3 hur hun hb3 hb23)
                  | (go_at_call 43; refine hT9.mono ?_; rintro _ w4 ⟨ta, tc, rfl, hV, hb4⟩; clear c0 cz0 c1 cz1 c2 cz2 c3 cz3 c4 cz4; have p4 := (hb4.block _ (heap_lt HP4.out)).trans HP4.out; have p6 := (hb4.block _ (heap_lt HP6.out)).trans HP6.out; have c0 := cell_of_heap p6 (i := 0) (v := .int .i64 (f : Int)) (by rfl); have c1 := cell_of_heap p6 (i := 1) (v := .slice ea L.length ec) (by rfl); have c2 := cell_of_heap p6 (i := 2) (v := .int .i64 (gd : Int)) (by rfl); have c3 := cell_of_heap p6 (i := 3) (v := .int .i64 (b.length : Int)) (by rfl); have c4 := cell_of_heap p6 (i := 4) (v := .int .i64 0) (by rfl); have cz0 := frozen_of_heap (i := 0) p6; have cz1 := frozen_of_heap (i := 1) p6; have cz2 := frozen_of_heap (i := 2) p6; have cz3 := frozen_of_heap (i := 3) p6; have cz4 := frozen_of_heap (i := 4) p6; have HT4 := Lib.hid p4; have HT6 := Lib.hid p6; clear p4 p6 x0 x1))
                have hb9 := HB23.out.trans (hb4.mono HB23.out.size)
                have hentW := (HE.out.below HB23.out).below hb4
                obtain ⟨X, hX, q4, q6, hbX, hentX⟩ := decExit (why := 250) HT4.out HT6.out (HBW.out.trans (hb9.mono HBW.out.size)) hentW
                clear c0 cz0 c1 cz1 c2 cz2 c3 cz3 c4 cz4
                rw [hX]
                clear hX
                have t0 := cell_of_heap q6 (i := 0) (v := .int .i64 (f : Int)) (by rfl)
                have t1 := cell_of_heap q6 (i := 1) (v := .slice ea L.length ec) (by rfl)
                have t2 := cell_of_heap q6 (i := 2) (v := .int .i64 (gd : Int)) (by rfl)
                have t3 := cell_of_heap q6 (i := 3) (v := .int .i64 (b.length : Int)) (by rfl)
                have t4 := cell_of_heap q6 (i := 4) (v := .int .i64 250) (by rfl)
                have r0 := cell_of_heap q4 (i := 0) (v := .int .i64 0) (by rfl)
                have r1 := cell_of_heap q4 (i := 1) (v := .slice none 0 0) (by rfl)
                have r2 := cell_of_heap q4 (i := 2) (v := .int .i64 0) (by rfl)
                have r3 := cell_of_heap q4 (i := 3) (v := .int .i64 0) (by rfl)
                have r4 := cell_of_heap q4 (i := 4) (v := .int .i64 0) (by rfl)
                have rz0 := frozen_of_heap (i := 0) q4
                have rz1 := frozen_of_heap (i := 1) q4
                have rz2 := frozen_of_heap (i := 2) q4
                have rz3 := frozen_of_heap (i := 3) q4
                have rz4 := frozen_of_heap (i := 4) q4
                have HK4 := Lib.hid q4
                go_wp2_with fail
                obtain ⟨Y, hY, hyx, hcY⟩ := set5 (x := .int .i64 (f : Int)) (y := .slice ea L.length ec) (z := .int .i64 (gd : Int)) (u := .int .i64 (b.length : Int)) (v := .int .i64 250) HK4.out
                rw [hY]
                have y0 := cell_of_heap hyx (i := 0) (v := .int .i64 (f : Int)) (by rfl)
                have y1 := cell_of_heap hyx (i := 1) (v := .slice ea L.length ec) (by rfl)
                have y2 := cell_of_heap hyx (i := 2) (v := .int .i64 (gd : Int)) (by rfl)
                have y3 := cell_of_heap hyx (i := 3) (v := .int .i64 (b.length : Int)) (by rfl)
                have y4 := cell_of_heap hyx (i := 4) (v := .int .i64 250) (by rfl)
                have hsg : segL f b = ⟨L, gd, 250⟩ := HSG.out
                rw [Exit.noGoto_ret]
                refine bodyPost_ret (v := .tuple #[.agg #[.int .i64 (f : Int), .slice ea L.length ec, .int .i64 (gd : Int), .int .i64 (b.length : Int), .int .i64 250], .int .i64 0]) (by simp [results, Tryz.results14, go_sem, y0, y1, y2, y3, y4]) rfl ?_
                rw [DecPost, hsg]
                exact ⟨_, rfl, hentX.kept hcY (fun x hx e => by omega) (fun x hx => by omega), Chg.ret hbX (Nat.le_refl _) hcY⟩
            · have hTk : ∀ (W : World) (ua : Option Addr) (uc : Nat), RowAt W ua (BL.map bv) ∧ (ua = none → uc = 0) → Calls Tryz.prog 43 #[.slice ua BL.length uc] W fun e w' => e = .returned (.tuple #[.int .i64 0, .slice none 0 0, .int .i64 250]) ∧ Below W.heap.size W w' := fun W ua uc h => (hTk W ua uc h).mono fun e w' h => by
                rcases h with ⟨h, _⟩ | ⟨_, h1, h2⟩
                · exact absurd h htk
                · exact ⟨h1, h2⟩
              have hat : atE f b ⟨L, gd, 0⟩ = 250 := by unfold atE; rw [if_neg H96.out, if_neg (by simpa using hre), if_neg (by rw [hkd]; simpa using h101), if_pos (.inl (by rw [hBL]; simpa using htk))]
              have hsg : segL f b = ⟨L, gd, 250⟩ := by rw [← HSF.out.2, segFrom_stop f b q _ HLT.out (by rw [hat]; decide) (by have := HSF.out.1; have := HLT.out; simp at *; omega), hat]
              have HSG := Lib.hid hsg
              clear hat hsg hre hkd hN hBL h101 htk
              go_upto_region 17 with (first
                | rw [HW3.out]
                | (go_at_call 42; refine hRd3.mono ?_; rintro _ w2 ⟨ua, uc, rfl, hU, hb2⟩; clear c0 cz0 c1 cz1 c2 cz2 c3 cz3 c4 cz4; obtain ⟨w3, hw3⟩ : ∃ w3, w2.alloc (.cells #[.int .u8 (kd.toNat : Int), .slice ua BL.length uc] 94) = w3 := ⟨_, rfl⟩; have hb3 : Below w2.heap.size w2 w3 := (by rw [← hw3]; exact below_alloc w2 _); have hb23 := hb2.trans (hb3.mono hb2.size); have hx3 : w3.heap[w2.heap.size]? = some (.cells #[.int .u8 (kd.toNat : Int), .slice ua BL.length uc] 94 (0, 0)) := (by rw [← hw3]; exact World.alloc_heap_new w2 _); have p4 := (hb23.block _ (heap_lt K4.out)).trans K4.out; have p6 := (hb23.block _ (heap_lt K6.out)).trans K6.out; obtain ⟨_, _, e9, _, hun, hur⟩ := hU.row; cases e9; have hT9 := hTk w3 ua uc ⟨hur.below hb3, hun⟩; have x0 := cell_of_heap hx3 (i := 0) (v := .int .u8 (kd.toNat : Int)) (by rfl); have x1 := cell_of_heap hx3 (i := 1) (v := .slice ua BL.length uc) (by rfl); have c0 := cell_of_heap p6 (i := 0) (v := .int .i64 (f : Int)) (by rfl); have c1 := cell_of_heap p6 (i := 1) (v := .slice ea L.length ec) (by rfl); have c2 := cell_of_heap p6 (i := 2) (v := .int .i64 (gd : Int)) (by rfl); have c3 := cell_of_heap p6 (i := 3) (v := .int .i64 (b.length : Int)) (by rfl); have c4 := cell_of_heap p6 (i := 4) (v := .int .i64 0) (by rfl); have cz0 := frozen_of_heap (i := 0) p6; have cz1 := frozen_of_heap (i := 1) p6; have cz2 := frozen_of_heap (i := 2) p6; have cz3 := frozen_of_heap (i := 3) p6; have cz4 := frozen_of_heap (i := 4) p6; have HW3 := Lib.hid hw3; have HP4 := Lib.hid p4; have HP6 := Lib.hid p6; have HB23 := Lib.hid hb23; clear p4 p6 hw3 hx3 hur hun hb3 hb23)
                | (go_at_call 43; refine hT9.mono ?_; rintro _ w4 ⟨rfl, hb4⟩; clear c0 cz0 c1 cz1 c2 cz2 c3 cz3 c4 cz4; have p4 := (hb4.block _ (heap_lt HP4.out)).trans HP4.out; have p6 := (hb4.block _ (heap_lt HP6.out)).trans HP6.out; have c0 := cell_of_heap p6 (i := 0) (v := .int .i64 (f : Int)) (by rfl); have c1 := cell_of_heap p6 (i := 1) (v := .slice ea L.length ec) (by rfl); have c2 := cell_of_heap p6 (i := 2) (v := .int .i64 (gd : Int)) (by rfl); have c3 := cell_of_heap p6 (i := 3) (v := .int .i64 (b.length : Int)) (by rfl); have c4 := cell_of_heap p6 (i := 4) (v := .int .i64 0) (by rfl); have cz0 := frozen_of_heap (i := 0) p6; have cz1 := frozen_of_heap (i := 1) p6; have cz2 := frozen_of_heap (i := 2) p6; have cz3 := frozen_of_heap (i := 3) p6; have cz4 := frozen_of_heap (i := 4) p6; have HT4 := Lib.hid p4; have HT6 := Lib.hid p6; clear p4 p6 x0 x1))
              have hb9 := HB23.out.trans (hb4.mono HB23.out.size)
              have hentW := (HE.out.below HB23.out).below hb4
              obtain ⟨X, hX, q4, q6, hbX, hentX⟩ := decExit (why := 250) HT4.out HT6.out (HBW.out.trans (hb9.mono HBW.out.size)) hentW
              clear c0 cz0 c1 cz1 c2 cz2 c3 cz3 c4 cz4
              rw [hX]
              clear hX
              have t0 := cell_of_heap q6 (i := 0) (v := .int .i64 (f : Int)) (by rfl)
              have t1 := cell_of_heap q6 (i := 1) (v := .slice ea L.length ec) (by rfl)
              have t2 := cell_of_heap q6 (i := 2) (v := .int .i64 (gd : Int)) (by rfl)
              have t3 := cell_of_heap q6 (i := 3) (v := .int .i64 (b.length : Int)) (by rfl)
              have t4 := cell_of_heap q6 (i := 4) (v := .int .i64 250) (by rfl)
              have r0 := cell_of_heap q4 (i := 0) (v := .int .i64 0) (by rfl)
              have r1 := cell_of_heap q4 (i := 1) (v := .slice none 0 0) (by rfl)
              have r2 := cell_of_heap q4 (i := 2) (v := .int .i64 0) (by rfl)
              have r3 := cell_of_heap q4 (i := 3) (v := .int .i64 0) (by rfl)
              have r4 := cell_of_heap q4 (i := 4) (v := .int .i64 0) (by rfl)
              have rz0 := frozen_of_heap (i := 0) q4
              have rz1 := frozen_of_heap (i := 1) q4
              have rz2 := frozen_of_heap (i := 2) q4
              have rz3 := frozen_of_heap (i := 3) q4
              have rz4 := frozen_of_heap (i := 4) q4
              have HK4 := Lib.hid q4
              go_wp2_with fail
              obtain ⟨Y, hY, hyx, hcY⟩ := set5 (x := .int .i64 (f : Int)) (y := .slice ea L.length ec) (z := .int .i64 (gd : Int)) (u := .int .i64 (b.length : Int)) (v := .int .i64 250) HK4.out
              rw [hY]
              have y0 := cell_of_heap hyx (i := 0) (v := .int .i64 (f : Int)) (by rfl)
              have y1 := cell_of_heap hyx (i := 1) (v := .slice ea L.length ec) (by rfl)
              have y2 := cell_of_heap hyx (i := 2) (v := .int .i64 (gd : Int)) (by rfl)
              have y3 := cell_of_heap hyx (i := 3) (v := .int .i64 (b.length : Int)) (by rfl)
              have y4 := cell_of_heap hyx (i := 4) (v := .int .i64 250) (by rfl)
              have hsg : segL f b = ⟨L, gd, 250⟩ := HSG.out
              rw [Exit.noGoto_ret]
              refine bodyPost_ret (v := .tuple #[.agg #[.int .i64 (f : Int), .slice ea L.length ec, .int .i64 (gd : Int), .int .i64 (b.length : Int), .int .i64 250], .int .i64 0]) (by simp [results, Tryz.results14, go_sem, y0, y1, y2, y3, y4]) rfl ?_
              rw [DecPost, hsg]
              exact ⟨_, rfl, hentX.kept hcY (fun x hx e => by omega) (fun x hx => by omega), Chg.ret hbX (Nat.le_refl _) hcY⟩
          · have gk : ((kd.toNat : Int) != 101) = true := by
              simp only [bne_iff_ne, ne_eq]
              intro e
              exact h101 (UInt8.toNat_inj.1 (by show kd.toNat = 101; omega))
            have hat : atE f b ⟨L, gd, 0⟩ = 171 := by unfold atE; rw [if_neg H96.out, if_neg (by simpa using hre), if_pos (by rw [hkd]; exact h101)]
            have hsg : segL f b = ⟨L, gd, 171⟩ := by rw [← HSF.out.2, segFrom_stop f b q _ HLT.out (by rw [hat]; decide) (by have := HSF.out.1; have := HLT.out; simp at *; omega), hat]
            have HSG := Lib.hid hsg
            clear hat hsg hre hkd hN hBL h101
            go_upto_region 17 with (go_at_call 42; refine hRd3.mono ?_; rintro _ w2 ⟨ua, uc, rfl, hU, hb2⟩; clear c0 cz0 c1 cz1 c2 cz2 c3 cz3 c4 cz4; have p4 := (hb2.block _ (heap_lt K4.out)).trans K4.out; have p6 := (hb2.block _ (heap_lt K6.out)).trans K6.out; have hbd := heap_lt p6; have hbd0 := heap_lt p4; have c0 := cell_of_heap p6 (i := 0) (v := .int .i64 (f : Int)) (by rfl); have c1 := cell_of_heap p6 (i := 1) (v := .slice ea L.length ec) (by rfl); have c2 := cell_of_heap p6 (i := 2) (v := .int .i64 (gd : Int)) (by rfl); have c3 := cell_of_heap p6 (i := 3) (v := .int .i64 (b.length : Int)) (by rfl); have c4 := cell_of_heap p6 (i := 4) (v := .int .i64 0) (by rfl); have cz0 := frozen_of_heap (i := 0) p6; have cz1 := frozen_of_heap (i := 1) p6; have cz2 := frozen_of_heap (i := 2) p6; have cz3 := frozen_of_heap (i := 3) p6; have cz4 := frozen_of_heap (i := 4) p6; have HP4 := Lib.hid p4; have HP6 := Lib.hid p6; clear p4 p6)
            have hentW := HE.out.below hb2
            obtain ⟨X, hX, q4, q6, hbX0, hentX0⟩ := decExit (why := 171) HP4.out HP6.out (HBW.out.trans (hb2.mono HBW.out.size)) hentW
            clear c0 cz0 c1 cz1 c2 cz2 c3 cz3 c4 cz4
            rw [hX]
            obtain ⟨X2, hX2⟩ : ∃ X2, X.alloc (.cells #[.int .u8 (kd.toNat : Int), .slice ua BL.length uc] 94) = X2 := ⟨_, rfl⟩
            have hbX2 : Below X.heap.size X X2 := by rw [← hX2]; exact below_alloc X _
            have q4 := (hbX2.block _ (heap_lt q4)).trans q4
            have q6 := (hbX2.block _ (heap_lt q6)).trans q6
            have hbX := hbX0.trans (hbX2.mono hbX0.size)
            have hentX := hentX0.below hbX2
            rw [hX2]
            clear hX hX2 hbX2 hbX0 hentX0
            have t0 := cell_of_heap q6 (i := 0) (v := .int .i64 (f : Int)) (by rfl)
            have t1 := cell_of_heap q6 (i := 1) (v := .slice ea L.length ec) (by rfl)
            have t2 := cell_of_heap q6 (i := 2) (v := .int .i64 (gd : Int)) (by rfl)
            have t3 := cell_of_heap q6 (i := 3) (v := .int .i64 (b.length : Int)) (by rfl)
            have t4 := cell_of_heap q6 (i := 4) (v := .int .i64 171) (by rfl)
            have r0 := cell_of_heap q4 (i := 0) (v := .int .i64 0) (by rfl)
            have r1 := cell_of_heap q4 (i := 1) (v := .slice none 0 0) (by rfl)
            have r2 := cell_of_heap q4 (i := 2) (v := .int .i64 0) (by rfl)
            have r3 := cell_of_heap q4 (i := 3) (v := .int .i64 0) (by rfl)
            have r4 := cell_of_heap q4 (i := 4) (v := .int .i64 0) (by rfl)
            have rz0 := frozen_of_heap (i := 0) q4
            have rz1 := frozen_of_heap (i := 1) q4
            have rz2 := frozen_of_heap (i := 2) q4
            have rz3 := frozen_of_heap (i := 3) q4
            have rz4 := frozen_of_heap (i := 4) q4
            have HK4 := Lib.hid q4
            go_wp2_with fail
            obtain ⟨Y, hY, hyx, hcY⟩ := set5 (x := .int .i64 (f : Int)) (y := .slice ea L.length ec) (z := .int .i64 (gd : Int)) (u := .int .i64 (b.length : Int)) (v := .int .i64 171) HK4.out
            rw [hY]
            have y0 := cell_of_heap hyx (i := 0) (v := .int .i64 (f : Int)) (by rfl)
            have y1 := cell_of_heap hyx (i := 1) (v := .slice ea L.length ec) (by rfl)
            have y2 := cell_of_heap hyx (i := 2) (v := .int .i64 (gd : Int)) (by rfl)
            have y3 := cell_of_heap hyx (i := 3) (v := .int .i64 (b.length : Int)) (by rfl)
            have y4 := cell_of_heap hyx (i := 4) (v := .int .i64 171) (by rfl)
            have hsg : segL f b = ⟨L, gd, 171⟩ := HSG.out
            rw [Exit.noGoto_ret]
            refine bodyPost_ret (v := .tuple #[.agg #[.int .i64 (f : Int), .slice ea L.length ec, .int .i64 (gd : Int), .int .i64 (b.length : Int), .int .i64 171], .int .i64 0]) (by simp [results, Tryz.results14, go_sem, y0, y1, y2, y3, y4]) rfl ?_
            rw [DecPost, hsg]
            exact ⟨_, rfl, hentX.kept hcY (fun x hx e => by omega) (fun x hx => by omega), Chg.ret hbX (Nat.le_refl _) hcY⟩
        · -- no frame is there
          have hat : atE f b ⟨L, gd, 0⟩ = readE (b.drop gd) := by unfold atE; rw [if_neg H96.out, if_pos hre]
          have hsg : segL f b = ⟨L, gd, readE (b.drop gd)⟩ := by rw [← HSF.out.2, segFrom_stop f b q _ HLT.out (by rw [hat]; exact hre) (by have := HSF.out.1; have := HLT.out; simp at *; omega), hat]
          obtain ⟨er, her⟩ : ∃ er, readE (b.drop gd) = er := ⟨_, rfl⟩
          rw [her] at hsg
          have hRd2 : Calls Tryz.prog 42 #[.slice (subAt a c gd) (b.length - gd) (c - gd)] wr fun e w' => e = .returned (.tuple #[.agg #[.int .u8 0, .slice none 0 0], .int .i64 0, .int .i64 (er : Int)]) ∧ Below wr.heap.size wr w' := hRd.mono fun e w' h => by
            rcases h with ⟨h, _⟩ | ⟨_, h1, h2⟩
            · exact absurd h hre
            · rw [her] at h1; exact ⟨h1, h2⟩
          have ge0 : ((er : Int) == 0) = false := by simp; omega
          have ge1 : ((er : Int) != 0) = true := by simp; omega
          have HSG := Lib.hid hsg
          clear hat hsg hre her hRd
          go_upto_region 17 with (go_at_call 42; refine hRd2.mono ?_; rintro _ w2 ⟨rfl, hb2⟩; clear c0 cz0 c1 cz1 c2 cz2 c3 cz3 c4 cz4; have p4 := (hb2.block _ (heap_lt K4.out)).trans K4.out; have p6 := (hb2.block _ (heap_lt K6.out)).trans K6.out; have hbd := heap_lt p6; have hbd0 := heap_lt p4; have c0 := cell_of_heap p6 (i := 0) (v := .int .i64 (f : Int)) (by rfl); have c1 := cell_of_heap p6 (i := 1) (v := .slice ea L.length ec) (by rfl); have c2 := cell_of_heap p6 (i := 2) (v := .int .i64 (gd : Int)) (by rfl); have c3 := cell_of_heap p6 (i := 3) (v := .int .i64 (b.length : Int)) (by rfl); have c4 := cell_of_heap p6 (i := 4) (v := .int .i64 0) (by rfl); have cz0 := frozen_of_heap (i := 0) p6; have cz1 := frozen_of_heap (i := 1) p6; have cz2 := frozen_of_heap (i := 2) p6; have cz3 := frozen_of_heap (i := 3) p6; have cz4 := frozen_of_heap (i := 4) p6; have HP4 := Lib.hid p4; have HP6 := Lib.hid p6; clear p4 p6)
          have hentW := HE.out.below hb2
          obtain ⟨X, hX, q4, q6, hbX0, hentX0⟩ := decExit (why := (er : Int)) HP4.out HP6.out (HBW.out.trans (hb2.mono HBW.out.size)) hentW
          clear c0 cz0 c1 cz1 c2 cz2 c3 cz3 c4 cz4
          rw [hX]
          obtain ⟨X2, hX2⟩ : ∃ X2, X.alloc (.cells #[.int .u8 0, .slice none 0 0] 94) = X2 := ⟨_, rfl⟩
          have hbX2 : Below X.heap.size X X2 := by rw [← hX2]; exact below_alloc X _
          have q4 := (hbX2.block _ (heap_lt q4)).trans q4
          have q6 := (hbX2.block _ (heap_lt q6)).trans q6
          have hbX := hbX0.trans (hbX2.mono hbX0.size)
          have hentX := hentX0.below hbX2
          rw [hX2]
          clear hX hX2 hbX2 hbX0 hentX0
          have t0 := cell_of_heap q6 (i := 0) (v := .int .i64 (f : Int)) (by rfl)
          have t1 := cell_of_heap q6 (i := 1) (v := .slice ea L.length ec) (by rfl)
          have t2 := cell_of_heap q6 (i := 2) (v := .int .i64 (gd : Int)) (by rfl)
          have t3 := cell_of_heap q6 (i := 3) (v := .int .i64 (b.length : Int)) (by rfl)
          have t4 := cell_of_heap q6 (i := 4) (v := .int .i64 (er : Int)) (by rfl)
          have r0 := cell_of_heap q4 (i := 0) (v := .int .i64 0) (by rfl)
          have r1 := cell_of_heap q4 (i := 1) (v := .slice none 0 0) (by rfl)
          have r2 := cell_of_heap q4 (i := 2) (v := .int .i64 0) (by rfl)
          have r3 := cell_of_heap q4 (i := 3) (v := .int .i64 0) (by rfl)
          have r4 := cell_of_heap q4 (i := 4) (v := .int .i64 0) (by rfl)
          have rz0 := frozen_of_heap (i := 0) q4
          have rz1 := frozen_of_heap (i := 1) q4
          have rz2 := frozen_of_heap (i := 2) q4
          have rz3 := frozen_of_heap (i := 3) q4
          have rz4 := frozen_of_heap (i := 4) q4
          have HK4 := Lib.hid q4
          go_wp2_with fail
          obtain ⟨Y, hY, hyx, hcY⟩ := set5 (x := .int .i64 (f : Int)) (y := .slice ea L.length ec) (z := .int .i64 (gd : Int)) (u := .int .i64 (b.length : Int)) (v := .int .i64 (er : Int)) HK4.out
          rw [hY]
          have y0 := cell_of_heap hyx (i := 0) (v := .int .i64 (f : Int)) (by rfl)
          have y1 := cell_of_heap hyx (i := 1) (v := .slice ea L.length ec) (by rfl)
          have y2 := cell_of_heap hyx (i := 2) (v := .int .i64 (gd : Int)) (by rfl)
          have y3 := cell_of_heap hyx (i := 3) (v := .int .i64 (b.length : Int)) (by rfl)
          have y4 := cell_of_heap hyx (i := 4) (v := .int .i64 (er : Int)) (by rfl)
          have hsg : segL f b = ⟨L, gd, er⟩ := HSG.out
          rw [Exit.noGoto_ret]
          refine bodyPost_ret (v := .tuple #[.agg #[.int .i64 (f : Int), .slice ea L.length ec, .int .i64 (gd : Int), .int .i64 (b.length : Int), .int .i64 (er : Int)], .int .i64 0]) (by simp [results, Tryz.results14, go_sem, y0, y1, y2, y3, y4]) rfl ?_
          rw [DecPost, hsg]
          exact ⟨_, rfl, hentX.kept hcY (fun x hx e => by omega) (fun x hx => by omega), Chg.ret hbX (Nat.le_refl _) hcY⟩
    · obtain rfl : gd = b.length := by omega
      have g3 : decide (b.length < b.length) = false := by simp
      have hsg : segL f b = ⟨L, b.length, 0⟩ := by rw [← hsf, segFrom_done f b q _ (Nat.le_refl _)]
      have HSG := Lib.hid hsg
      have K4 := Lib.hid k4
      have K6 := Lib.hid k6
      have hentX := hent
      have hbX := hbw
      clear hsf hsg hlt hq
      go_upto_region 17 with fail
      clear c0 cz0 c1 cz1 c2 cz2 c3 cz3 c4 cz4
      have t0 := cell_of_heap k6 (i := 0) (v := .int .i64 (f : Int)) (by rfl)
      have t1 := cell_of_heap k6 (i := 1) (v := .slice ea L.length ec) (by rfl)
      have t2 := cell_of_heap k6 (i := 2) (v := .int .i64 (b.length : Int)) (by rfl)
      have t3 := cell_of_heap k6 (i := 3) (v := .int .i64 (b.length : Int)) (by rfl)
      have t4 := cell_of_heap k6 (i := 4) (v := .int .i64 0) (by rfl)
      have r0 := cell_of_heap k4 (i := 0) (v := .int .i64 0) (by rfl)
      have r1 := cell_of_heap k4 (i := 1) (v := .slice none 0 0) (by rfl)
      have r2 := cell_of_heap k4 (i := 2) (v := .int .i64 0) (by rfl)
      have r3 := cell_of_heap k4 (i := 3) (v := .int .i64 0) (by rfl)
      have r4 := cell_of_heap k4 (i := 4) (v := .int .i64 0) (by rfl)
      have rz0 := frozen_of_heap (i := 0) k4
      have rz1 := frozen_of_heap (i := 1) k4
      have rz2 := frozen_of_heap (i := 2) k4
      have rz3 := frozen_of_heap (i := 3) k4
      have rz4 := frozen_of_heap (i := 4) k4
      have HK4 := Lib.hid k4
      go_wp2_with fail
      obtain ⟨Y, hY, hyx, hcY⟩ := set5 (x := .int .i64 (f : Int)) (y := .slice ea L.length ec) (z := .int .i64 (b.length : Int)) (u := .int .i64 (b.length : Int)) (v := .int .i64 0) HK4.out
      rw [hY]
      have y0 := cell_of_heap hyx (i := 0) (v := .int .i64 (f : Int)) (by rfl)
      have y1 := cell_of_heap hyx (i := 1) (v := .slice ea L.length ec) (by rfl)
      have y2 := cell_of_heap hyx (i := 2) (v := .int .i64 (b.length : Int)) (by rfl)
      have y3 := cell_of_heap hyx (i := 3) (v := .int .i64 (b.length : Int)) (by rfl)
      have y4 := cell_of_heap hyx (i := 4) (v := .int .i64 0) (by rfl)
      have hsg : segL f b = ⟨L, b.length, 0⟩ := HSG.out
      rw [Exit.noGoto_ret]
      refine bodyPost_ret (v := .tuple #[.agg #[.int .i64 (f : Int), .slice ea L.length ec, .int .i64 (b.length : Int), .int .i64 (b.length : Int), .int .i64 0], .int .i64 0]) (by simp [results, Tryz.results14, go_sem, y0, y1, y2, y3, y4]) rfl ?_
      rw [DecPost, hsg]
      exact ⟨_, rfl, hentX.kept hcY (fun x hx e => by omega) (fun x hx => by omega), Chg.ret hbX (Nat.le_refl _) hcY⟩

end Go.Proofs.YtlmdpcaikhdenaaGreat
