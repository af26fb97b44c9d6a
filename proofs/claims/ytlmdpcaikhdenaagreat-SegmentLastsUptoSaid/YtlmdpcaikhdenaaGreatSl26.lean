/- Texts of this claim, one behind the other: She, Shf, Shg. -/
import Derived.Test.YtlmdpcaikhdenaaGreatSl25
import Derived.Test.YtlmdpcaikhdenaaGreatSl17
import Derived.Test.YtlmdpcaikhdenaaGreatSl23
import Derived.Test.YtlmdpcaikhdenaaGreatSl02
import Derived.RangeFuncKeeps
import Derived.RangeFuncFrom
set_option linter.unusedSimpArgs false
set_option linter.unusedVariables false
/- Record: Put, the walk. -/
namespace Go.Proofs.YtlmdpcaikhdenaaGreat
open Go.RowKit Go.Maps

theorem Grew.below (v : Value) {w w' : World} (h : Below w.heap.size w w') : Grew v w v w' := ⟨Chg.of_below h, .inl rfl⟩
theorem be1 (c : UInt8) : be 1 c.toNat = [c] := by simp [be]
set_option maxRecDepth 100000 in
set_option maxHeartbeats 16000000 in
theorem recPut_any {w : World} {a : Option Addr} {c : Nat} {L : List (UInt8 × List UInt8)} (h : RecsAt w a L) (hk : ∀ d ∈ L, d.1 ≠ 0) (hb : ∀ d ∈ L, d.2.length ≤ 8388608) (hl : L.length ≤ 16000000) :
    Calls Tryz.prog 74 #[.slice a L.length c] w fun e w' => ∃ U, e = .returned (.tuple #[U, .int .i64 0]) ∧ BytesIn w' (fun x => w.heap.size ≤ x) U (putL L) ∧ Below w.heap.size w w' := by
  have hmax : maxLen = 9223372036854775807 := rfl
  obtain ⟨i0, hi, hz0, hz1, hz2⟩ := info_parts Tryz.info5
  have hPL := putL_len_le
  have HPL := Lib.hid hPL
  clear hPL
  have hE : Hid (RecsAt w a L) := Lib.hid h
  have HK := Lib.hid hk
  have HLB := Lib.hid hb
  clear h hk hb
  go_enter Tryz.func74, Tryz.ntmps74
  go_wp2
  go_loopw [12, 4] (fun i o wr => ∃ (k m : Nat) (oa : Option Addr) (oc : Nat), k ≤ L.length ∧ i = .int .i64 k ∧ o = .slice oa m oc ∧ m = (putL (L.take k)).length ∧ wr.ownsRow 0 5 1 (.slice oa m oc) m ((putL (L.take k)).map bv) ∧ (∀ b, (Value.slice oa m oc).ownBlock = some b → w.heap.size ≤ b) ∧ Below w.heap.size w wr) (fun i _ _ => L.length - (RowKit.intOf i).toNat)
  case atStart => exact ⟨0, 0, some ⟨w.heap.size, 0, none⟩, 0, by omega, rfl, rfl, rfl, by simpa [putL] using ownsRow_lit w 0 #[] 5 1 0 (by simp) (by decide) rfl, fun b hb => by cases hb; exact Nat.le_refl _, below_alloc w _⟩
  case round =>
    obtain ⟨k, m, oa, oc, hk, rfl, rfl, hm, hr, hro, hbw⟩ := hrel
    by_cases hlt : k < L.length
    · obtain ⟨x, hx⟩ : ∃ x, L[k]? = some x := ⟨L[k]'hlt, by simp⟩
      obtain ⟨b1, o1, rfl, c1⟩ := (hE.out.below hbw) (fun e => by rw [e] at hlt; simp at hlt)
      obtain ⟨u0, ua, uc, u1, r1, un⟩ := c1 k x hx
      have hxm : x ∈ L := List.mem_of_getElem? hx
      have gk : ((x.1.toNat : Int) == 0) = false := by
        rw [beq_eq_false_iff_ne]; intro e; exact HK.out x hxm (UInt8.toNat_inj.1 (by simpa using e))
      have hxl := HLB.out x hxm
      have gl : decide ((8388608 : Int) < (x.2.length : Int)) = false := by simp; omega
      have j0 : (k : Int) < (L.length : Int) := by omega
      have hrl : ∀ y, x.2 ≠ [] → ua = some y → y.block < wr.heap.size := fun y hne e => by
        obtain ⟨g, off, e2, hc⟩ := r1 (by simpa using hne)
        rw [e2] at e; cases e
        cases hq : x.2 with
        | nil => exact absurd hq hne
        | cons z r => exact cell_lt (hc 0 (bv z) (by rw [hq]; simp))
      have hmb : m ≤ 134217872000000 := by
        rw [hm]
        have := HPL.out (L.take k) (fun d hd => HLB.out d (List.mem_of_mem_take hd))
        rw [List.length_take] at this
        have h2 : min k L.length * 8388617 ≤ 16000000 * 8388617 := Nat.mul_le_mul_right _ (by omega)
        exact Nat.le_trans this (Nat.le_trans h2 (by decide))
      have hts : L.take (k + 1) = L.take k ++ [x] := by rw [List.take_add_one, hx]; rfl
      have hown : ∀ b, (Value.slice oa m oc).ownBlock = some b → b < wr.heap.size := fun b hb => (hr.lt b hb).2
      obtain ⟨wa, hwa⟩ : ∃ wa, wr.alloc (.cells #[.int .u8 (x.1.toNat : Int), .slice ua x.2.length uc] 94) = wa := ⟨_, rfl⟩
      have hba : Below wr.heap.size wr wa := by rw [← hwa]; exact below_alloc wr _
      have hxa : wa.heap[wr.heap.size]? = some (.cells #[.int .u8 (x.1.toNat : Int), .slice ua x.2.length uc] 94 (0, 0)) := by rw [← hwa]; exact World.alloc_heap_new wr _
      have hW := newWriter_any wa
      have d0 := cell_of_heap hxa (i := 0) (v := .int .u8 (x.1.toNat : Int)) (by rfl)
      have d1 := cell_of_heap hxa (i := 1) (v := .slice ua x.2.length uc) (by rfl)
      have hhl := head_len x
      have hel : (ends (headL x)).length = 4 := rfl
      have HHD : Hid ([] ++ be 1 x.1.toNat ++ be 4 x.2.length ++ x.2 = headL x) := Lib.hid (by rw [be1]; rfl)
      have HWA := Lib.hid hwa
      have HRL := Lib.hid hrl
      have HTS := Lib.hid hts
      have HM := Lib.hid hm
      have HR := Lib.hid hr
      have HRO := Lib.hid hro
      have HOWN := Lib.hid hown
      have HX := Lib.hid hx
      have HEL := Lib.hid hel
      have HHL := Lib.hid hhl
      clear hwa c1 hrl hts hm hr hro hown hx hhl hel
      go_wp2_with (first
        | rw [HWA.out]
        | (go_at_call 112; refine hW.mono ?_; rintro _ w1 ⟨rfl, hW1, hbn⟩; have hx1 := (hbn.block _ (heap_lt hxa)).trans hxa; have d0 := cell_of_heap hx1 (i := 0) (v := .int .u8 (x.1.toNat : Int)) (by rfl); have d1 := cell_of_heap hx1 (i := 1) (v := .slice ua x.2.length uc) (by rfl); have hP := put_byte hW1 (by decide) (x := x.1.toNat) x.1.toNat_lt)
        | (go_at_call 116; refine hP.mono ?_; rintro _ w2 ⟨rfl, F2, hW2, hc2, hF2⟩; have hza := heap_lt hxa; have hx2 := hc2.obj hx1 (fun e => by omega); have d0 := cell_of_heap hx2 (i := 0) (v := .int .u8 (x.1.toNat : Int)) (by rfl); have d1 := cell_of_heap hx2 (i := 1) (v := .slice ua x.2.length uc) (by rfl); have hb2 : Below wr.heap.size wr w2 := (hba.trans (hbn.mono hba.size)).trans (hc2.belowLo6 (by have := hbn.size; omega) (fun b hb => by omega)); have hL := listW4_any hW2 (by simp [be_len]) (r1.below hb2) un (fun hne y e hf => by have := HRL.out y hne e; have := hba.size; have := hbn.size; rcases hF2 _ hf with h | h <;> omega) hxl (c := uc))
        | (go_at_call 114; refine hL.mono ?_; rintro _ w3 ⟨rfl, F3, hW3, hc3, hF3⟩; have hB := bytesW_any hW3 (by simp [be_len]; omega); have hb3 : Below wr.heap.size wr w3 := hb2.trans (hc3.belowLo6 hb2.size (fun b hb => by have := hba.size; have := hbn.size; rcases hF2 _ hb with h | h <;> omega)))
        | (go_at_call 115; refine hB.mono ?_; rintro _ w4 ⟨U, rfl, hU, hb4⟩; rw [HHD.out] at hU; obtain ⟨ub, ubc, rfl, _, ubn, ubr, ubR, _, _⟩ := hU; have hb4w : Below wr.heap.size wr w4 := hb3.trans (hb4.mono hb3.size); have hr4 := (Chg.of_below (O := fun _ => False) hb4w).row HR.out (fun _ _ h => h))
        | (at_builtin; refine wpList_append_src_at _ rfl (.tmp 36) (.tmp 37) 26 rfl 0 5 i0 (.int .u8 0) 1 Tryz.underlying26 hi hz0 hz1 hz2 rfl _ _ _ rfl hr4 ub (headL x).length ubc ((headL x).map bv) rfl (by simp) ubn ubr (by intro u hu; obtain ⟨_, _, rfl⟩ := List.mem_map.1 hu; rfl) (by rw [HHL.out]; omega) (by rw [HHL.out]; omega) (Nat.zero_le _) ?_; intro v5 w5 r5 g5 at5; obtain ⟨va, vc, rfl, _, _⟩ := RowAt.of_owns r5; have hg5 := Grew.append g5 at5; have hE5 := ends_any (w := w5) (c := ubc) (ubr.chg hg5.1 (fun hne y e ho => by have q1 := HOWN.out _ ho; have q2 := ubR y e; have := hb3.size; omega)) (by rw [HHL.out]; omega))
        | (go_at_call 117; refine hE5.mono ?_; rintro _ w6 ⟨V, rfl, hV, hb6⟩; obtain ⟨vb, vbc, rfl, _, vbn, vbr, vbR, _, _⟩ := hV; have r6 := (Chg.of_below (O := fun _ => False) hb6).row r5 (fun _ _ h => h))
        | (at_builtin; refine wpList_append_src_at _ rfl (.tmp 38) (.tmp 40) 26 rfl 0 5 i0 (.int .u8 0) 1 Tryz.underlying26 hi hz0 hz1 hz2 rfl _ _ _ rfl r6 vb (ends (headL x)).length vbc ((ends (headL x)).map bv) rfl (by simp) vbn vbr (by intro u hu; obtain ⟨_, _, rfl⟩ := List.mem_map.1 hu; rfl) (by rw [HHL.out, HEL.out]; omega) (by rw [HHL.out, HEL.out]; omega) (Nat.zero_le _) ?_; intro v7 w7 r7 g7 at7; obtain ⟨ya, yc, rfl, _, _⟩ := RowAt.of_owns r7; have hg7 := Grew.append g7 at7))
      go_roundw
      case rel =>
        have hgg := (hg5.trans (Grew.below _ hb6)).trans hg7
        have hz := hb4w.size
        refine ⟨k + 1, m + (headL x).length + (ends (headL x)).length, ya, yc, by omega, by go_num, rfl, ?_, ?_, ?_, ?_⟩
        · rw [HTS.out, putL_snoc, frame_head, List.length_append, List.length_append, ← HM.out]; omega
        · rw [HTS.out, putL_snoc, frame_head, List.map_append, List.map_append, ← List.append_assoc]; exact r7
        · intro b hb
          rcases hgg.2 with e | ⟨g, e, hge⟩
          · exact HRO.out b (e.symm.trans hb)
          · rw [e] at hb; cases hb; have := hbw.size; omega
        · exact hbw.trans ((hb4w.mono hbw.size).trans (hgg.1.belowLo6 (by have := hbw.size; omega) (fun b hb => HRO.out b hb)))
      case measure => simp [RowKit.intOf]; omega
    · obtain rfl : k = L.length := by omega
      rw [List.take_length] at hm hr
      go_wp2
      go_ret2
      refine ⟨_, rfl, ?_, hbw⟩
      subst hm
      refine BytesIn.of_owns (base := w.heap.size) (ownsRow_from hr hro) (fun b h _ => h)

end Go.Proofs.YtlmdpcaikhdenaaGreat
/- Segment: frames; records in memory. -/
namespace Go.Proofs.YtlmdpcaikhdenaaGreat
open Go.RowKit Go.Maps

theorem Tryz.info94 : (Tryz.prog.info? 94).map (fun i => (i.zero, i.size, i.bytes)) = some (some (.agg #[.int .u8 0, .slice none 0 0]), 2, 32) := by kernel_rfl
/-- records in memory: their row and their bodies lie in blocks R -/
def RecIn (R : Nat → Prop) (w : World) (v : Value) (L : List (UInt8 × List UInt8)) : Prop :=
  ∃ vs, w.ownsRow 0 94 2 v L.length vs ∧ (∀ b, v.ownBlock = some b → R b) ∧ vs.length = L.length * 2 ∧ ∀ (i : Nat) d, L[i]? = some d → vs[i * 2]? = some (.int .u8 (d.1.toNat : Int)) ∧ ∃ x, vs[i * 2 + 1]? = some x ∧ BytesIn w R x d.2
theorem RecIn.kept {R R' O : Nat → Prop} {w w' : World} {v : Value} {L : List (UInt8 × List UInt8)} (h : RecIn R w v L) (hc : Chg O w w') (hO : ∀ b, R b → ¬ O b) (hR : ∀ b, R b → R' b) : RecIn R' w' v L := by
  obtain ⟨vs, h1, h2, h3, h4⟩ := h
  refine ⟨vs, hc.row h1 (fun b hb => hO b (h2 b hb)), fun b hb => hR b (h2 b hb), h3, fun i d hd => ?_⟩
  obtain ⟨k1, x, k2, k3⟩ := h4 i d hd
  exact ⟨k1, x, k2, k3.kept hc hO hR⟩
theorem RecIn.below {R : Nat → Prop} {w w' : World} {v : Value} {L : List (UInt8 × List UInt8)} (h : RecIn R w v L) (hb : Below w.heap.size w w') : RecIn R w' v L := h.kept (O := fun _ => False) (Chg.of_below hb) (fun _ _ h => h) (fun _ h => h)
theorem RecIn.nil (R : Nat → Prop) (w : World) : RecIn R w (.slice none 0 0) [] := ⟨[], World.ownsRow_nil _ _ _ _, fun b h => (by cases h), rfl, fun i d h => by simp at h⟩
theorem RecIn.at_ {R : Nat → Prop} {w : World} {v : Value} {L : List (UInt8 × List UInt8)} (h : RecIn R w v L) : ∃ a c, v = .slice a L.length c ∧ RecsAt w a L := by
  obtain ⟨vs, h1, h2, h3, h4⟩ := h
  obtain ⟨a, c, rfl, _, _, hr⟩ := ownsRow_at h1
  refine ⟨a, c, rfl, fun hL => ?_⟩
  obtain ⟨d0, hd0⟩ : ∃ d, L[0]? = some d := by
    cases L with
    | nil => exact absurd rfl hL
    | cons d r => exact ⟨d, rfl⟩
  obtain ⟨g, rfl, _⟩ := hr _ _ (h4 0 d0 hd0).1
  refine ⟨g, 0, rfl, fun i d hd => ?_⟩
  obtain ⟨k1, x, k2, ua, uc, rfl, hle, hnl, hrow, _⟩ := h4 i d hd
  obtain ⟨g1, e1, q1⟩ := hr _ _ k1
  obtain ⟨g2, e2, q2⟩ := hr _ _ k2
  cases e1; cases e2
  exact ⟨by rw [Nat.zero_add]; exact q1, ua, uc, by rw [Nat.zero_add]; exact q2, hrow, hnl⟩
/-- one record more -/
theorem RecIn.push {R : Nat → Prop} {w w1 w2 : World} {v v' x : Value} {L : List (UInt8 × List UInt8)} {k : UInt8} {l : List UInt8} {vs : List Value}
    (h1 : w.ownsRow 0 94 2 v L.length vs) (h2 : ∀ b, v.ownBlock = some b → R b) (h3 : vs.length = L.length * 2) (h4 : ∀ (i : Nat) d, L[i]? = some d → vs[i * 2]? = some (.int .u8 (d.1.toNat : Int)) ∧ ∃ x, vs[i * 2 + 1]? = some x ∧ BytesIn w R x d.2) (hx : BytesIn w R x l)
    (hc : Chg (fun _ => False) w w1) (hr : w2.ownsRow 0 94 2 v' (L.length + 1) (vs ++ [.int .u8 (k.toNat : Int), x])) (hg : Grew v w1 v' w2) (hty : ∀ b cs fr, v.ownBlock = some b → w1.heap[b]? = some (.cells cs 5 fr) → False) (hR : ∀ b, w1.heap.size ≤ b → R b) : RecIn R w2 v' (L ++ [(k, l)]) := by
  have nb : ∀ {y : Value} {m : List UInt8}, BytesIn w R y m → BytesIn w2 R y m := fun {y m} hy => by
    have hy1 := hy.kept (R' := R) hc (fun _ _ h => h) (fun _ h => h)
    obtain ⟨a, c, e, k1, k2, k3, k4, k5, k6⟩ := hy1
    have off : ∀ b, v.ownBlock = some b → y.ownBlock ≠ some b := fun b hb hy2 => by
      subst e
      rcases k6.2 with ⟨e2, _⟩ | ⟨g, cap, cur, e2, _, hg2, _⟩
      · rw [e2] at hy2; cases hy2
      · rw [e2] at hy2
        cases hy2
        exact hty g cur _ hb hg2
    refine ⟨a, c, e, k1, k2, ?_, k4, k5, hg.1.row k6 (fun b hb ho => off b ho (by rw [e]; exact hb))⟩
    obtain ⟨a', c', e', hr', _⟩ := RowAt.of_owns (hg.1.row k6 (fun b hb ho => off b ho (by rw [e]; exact hb)))
    cases e'
    exact hr'
  refine ⟨vs ++ [.int .u8 (k.toNat : Int), x], by rw [List.length_append]; exact hr, fun b hb => ?_, by simp [h3]; omega, fun i d hd => ?_⟩
  · rcases hg.2 with e | ⟨g, e, hge⟩
    · exact h2 b (by rw [← e]; exact hb)
    · rw [e] at hb; cases hb; exact hR _ hge
  · by_cases hi : i < L.length
    · rw [List.getElem?_append_left hi] at hd
      obtain ⟨k1, y, k2, k3⟩ := h4 i d hd
      rw [List.getElem?_append_left (by omega), List.getElem?_append_left (by omega)]
      exact ⟨k1, y, k2, nb k3⟩
    · have hi2 : i = L.length := by
        have := (List.getElem?_eq_some_iff.1 hd).1
        simp at this
        omega
      subst hi2
      rw [List.getElem?_append_right (by omega)] at hd
      simp at hd
      subst hd
      rw [List.getElem?_append_right (by omega), List.getElem?_append_right (by omega), h3]
      simp only [Nat.sub_self, Nat.add_sub_cancel_left]
      exact ⟨rfl, x, rfl, nb hx⟩
/-- the records of entries -/
def recsL : Nat → List (List UInt8) → List (UInt8 × List UInt8)
  | _, [] => []
  | n, e :: r => (101, oneL n e) :: recsL (n + 1) r
theorem recsL_len (n : Nat) (L : List (List UInt8)) : (recsL n L).length = L.length := by
  induction L generalizing n with
  | nil => rfl
  | cons e r ih => simp [recsL, ih]
theorem recsL_snoc (n : Nat) (l : List (List UInt8)) (e : List UInt8) : recsL n (l ++ [e]) = recsL n l ++ [(101, oneL (n + l.length) e)] := by
  induction l generalizing n with
  | nil => simp [recsL]
  | cons a r ih => simp [recsL, ih, Nat.add_assoc, Nat.add_comm 1]
theorem putL_recs (n : Nat) (L : List (List UInt8)) : putL (recsL n L) = encL n L := by
  induction L generalizing n with
  | nil => rfl
  | cons e r ih => rw [recsL, encL, ← ih]; simp [putL]
theorem recsL_mem {n : Nat} {L : List (List UInt8)} (h : ∀ e ∈ L, e.length ≤ 4096) : ∀ d ∈ recsL n L, d.1 ≠ 0 ∧ d.2.length ≤ 8388608 := by
  induction L generalizing n with
  | nil => intro d hd; cases hd
  | cons e r ih =>
    intro d hd
    rcases List.mem_cons.1 hd with rfl | hd
    · have := h e List.mem_cons_self
      exact ⟨by show (101 : UInt8) ≠ 0; decide, by show (oneL n e).length ≤ _; rw [one_len]; omega⟩
    · exact ih (fun e he => h e (List.mem_cons_of_mem _ he)) d hd

set_option maxRecDepth 100000 in
set_option maxHeartbeats 16000000 in
theorem frames_any {w : World} {n : Nat} {a : Option Addr} {c : Nat} {L : List (List UInt8)} (h : EntsAt w a L) (hl : L.length ≤ 4096) (hb : ∀ e ∈ L, e.length ≤ 4096) (hn : n + L.length ≤ 4611686018427387905) :
    Calls Tryz.prog 38 #[.int .i64 (n : Int), .slice a L.length c] w fun e w' => ∃ U, e = .returned U ∧ BytesIn w' (fun x => w.heap.size ≤ x) U (encL n L) ∧ Below w.heap.size w w' := by
  have hmax : maxLen = 9223372036854775807 := rfl
  obtain ⟨i0, hi, hz0, hz1, hz2⟩ := info_parts Tryz.info94
  have HE := Lib.hid h
  have HLB := Lib.hid hb
  have HN := Lib.hid hn
  clear h hb
  go_enter Tryz.func38, Tryz.ntmps38
  go_wp2
  go_loopw [14, 5] (fun i l wr => ∃ (k : Nat) (ea : Option Addr) (ec : Nat), k ≤ L.length ∧ i = .int .i64 k ∧ l = .slice ea k ec ∧ RecIn (fun x => w.heap.size ≤ x) wr (.slice ea k ec) (recsL n (L.take k)) ∧ Below w.heap.size w wr) (fun i _ _ => L.length - (RowKit.intOf i).toNat)
  case atStart => exact ⟨0, none, 0, by omega, rfl, rfl, by rw [List.take_zero]; exact RecIn.nil _ _, Below.refl _ _⟩
  case round =>
    obtain ⟨k, ea, ec, hk, rfl, rfl, hent, hbw⟩ := hrel
    by_cases hlt : k < L.length
    · obtain ⟨x, hx⟩ : ∃ x, L[k]? = some x := ⟨L[k]'hlt, by simp⟩
      obtain ⟨b1, o1, rfl, c1⟩ := (HE.out.below hbw) (fun e => by rw [e] at hlt; simp at hlt)
      obtain ⟨ua, uc, u1, r1, _, un⟩ := c1 k x hx
      have hxm : x ∈ L := List.mem_of_getElem? hx
      have hO := one_any (w := wr) (n := n + k) (by omega) r1 un (HLB.out x hxm) (c := uc)
      have hnk : IntKind.i64.wrap ((n : Int) + (k : Int)) = ((n + k : Nat) : Int) := by exact (Go.IntWalk.i64_in _ (by omega)).trans (by omega)
      have hts : recsL n (L.take (k + 1)) = recsL n (L.take k) ++ [(101, oneL (n + k) x)] := by
        rw [List.take_add_one, hx]; show recsL n (L.take k ++ [x]) = _
        rw [recsL_snoc, List.length_take]; congr 4; omega
      have hkl : (recsL n (L.take k)).length = k := by rw [recsL_len]; simp; omega
      have j0 : (k : Int) < (L.length : Int) := by omega
      have HT := Lib.hid hts
      have HEN := Lib.hid hent
      have HBW := Lib.hid hbw
      have HKL := Lib.hid hkl
      clear c1 hx hxm r1 un hts hent hbw hkl hn
      go_wp2_with (first
        | (go_at_call 73; refine hO.mono ?_; rintro _ w4 ⟨U, rfl, hV, hb4⟩; obtain ⟨ta, tc, rfl, _⟩ := hV.row; obtain ⟨vs, s1, s2, s3, s4⟩ := HEN.out.below hb4; rw [HKL.out] at s1)
        | (at_builtin; go_loud (refine wpList_append_own_at _ rfl (.tmp 27) (.tmp 30) 163 rfl 0 94 i0 (.agg #[.int .u8 0, .slice none 0 0]) 2 32 Tryz.underlying163 hi hz0 hz1 hz2 rfl (by decide) _ _ _ rfl (s1.alloc _) ⟨w4.heap.size, 0, none⟩ 1 1 [.int .u8 101, .slice ta (oneL (n + k) x).length tc] rfl rfl (fun j u hu => by rw [addr_add]; exact cell_new w4 _ _ j u (by simpa using hu)) (by simp [Value.oneCell']) (by omega) (by omega) (Nat.zero_le _) ?_); intro v5 w5 r5 hg5 _ hat5; obtain ⟨ya, yc, rfl, _, _, _⟩ := ownsRow_at r5; have hgr : Grew (.slice ea k ec) (w4.alloc (.cells #[.int .u8 101, .slice ta (oneL (n + k) x).length tc] 94)) (.slice ya (k + 1) yc) w5 := Grew.append hg5 hat5; have hgc : Chg (fun x => (Value.slice ea k ec).ownBlock = some x) w4 w5 := (Chg.alloc _ w4 _).trans hgr.1 (fun _ h _ => h)))
      go_roundw
      case rel =>
        have z1 := HBW.out.size
        have z4 := hb4.size
        refine ⟨k + 1, ya, yc, by omega, by go_num, rfl, ?_, ?_⟩
        · rw [HT.out]
          have hp := RecIn.push (R := fun x => w.heap.size ≤ x) (L := recsL n (L.take k)) (k := 101) (by rw [HKL.out]; exact s1) s2 s3 s4 (hV.kept (R' := fun x => w.heap.size ≤ x) (Chg.refl (fun _ => False) _) (fun _ _ h => h) (fun x hx => by omega)) (Chg.alloc _ w4 _) (v' := .slice ya (k + 1) yc) (w2 := w5) (by rw [HKL.out]; exact r5) hgr
            (fun b' cs fr hb' hcs => by
              obtain ⟨cs2, fr2, h2⟩ := ownsRow_ty (s1.alloc (.cells #[.int .u8 101, .slice ta (oneL (n + k) x).length tc] 94)) hb'
              rw [h2] at hcs
              simp only [Option.some.injEq, Obj.cells.injEq] at hcs
              exact absurd hcs.2.1 (by decide))
            (fun x hx => by simp at hx; omega)
          exact hp
        · exact HBW.out.trans ((hb4.mono z1).trans (hgc.belowLo6 (by omega) (fun x hx => by have := s2 x hx; omega)))
      case measure => simp [RowKit.intOf]; omega
    · obtain rfl : k = L.length := by omega
      rw [List.take_length] at hent
      obtain ⟨pa, pc, e, hat⟩ := hent.at_
      rw [recsL_len] at e
      cases e
      have hP := recPut_any (c := ec) hat (fun d hd => (recsL_mem HLB.out d hd).1) (fun d hd => (recsL_mem HLB.out d hd).2) (by rw [recsL_len]; omega)
      rw [recsL_len, putL_recs] at hP
      clear hent hat
      go_wp2_with (go_at_call 74; refine hP.mono ?_; rintro _ w7 ⟨U, rfl, hU, hb7⟩)
      go_ret
      exact ⟨_, rfl, hU.kept (Chg.refl (fun _ => False) _) (fun _ _ h => h) (fun x hx => by have := hbw.size; omega), hbw.trans (hb7.mono hbw.size)⟩

end Go.Proofs.YtlmdpcaikhdenaaGreat
/- Loops over an iterator that tells, at each item, what holds of the memory there; a round may be left. -/
namespace Go.Proofs.YtlmdpcaikhdenaaGreat
open Go.RowKit

section
variable {F : Fence} {n : Nat} {P : Program}
/-- an iterator: Y tells what holds of an item, behind the items pre, between the world W0 (where the loop's facts held) and W1 (where it is handed out): W1 has new memory only -/
def SeqY {α : Type} (F : Fence) (n : Nat) (P : Program) (g : Nat) (lb : Array Value) (encs : α → Array Value) (Y : List α → α → World → World → Prop) (Kp : World → World → Prop) (S Sp : List α → Prop) (w : World) : Prop :=
  ∀ (l : Nat) (J Jx : List α → World → Prop) (W : World), Below w.heap.size w W → (∀ s A B, J s A → A.grownBy B none → J s B) →
    (∀ pre x W0 W1, J pre W0 → Y pre x W0 W1 → YieldAt F (n - 1) P l (encs x) W1 fun e W' => (e = .returned (.bool true) ∧ J (pre ++ [x]) W' ∧ Kp W1 W') ∨ (e = .returned (.bool false) ∧ Jx (pre ++ [x]) W')) →
    J [] W → CallsIn F n P g (#[.func (.yield l) #[] #[]] ++ lb) W fun e W' => (∃ v, e = .returned v) ∧ ((∃ xs, S xs ∧ J xs W') ∨ (∃ pre, Sp pre ∧ Jx pre W'))
/-- how a round may be left -/
def postY {α : Type} (b : Nat) (Kp : World → World → Prop) (I : List α → World → Prop) (Ix : Code → List α → World → Prop) (xs : List α) (W1 W2 : World) : Exit → Act → World → Prop
  | .normal, _, W' => (∀ k, b ≤ k → k ≤ b + 1 → W'.heap[k]? = W2.heap[k]?) ∧ Kp W1 W' ∧ I xs W'
  | .ret, _, W' => (∀ k, b ≤ k → k ≤ b + 1 → W'.heap[k]? = W2.heap[k]?) ∧ Ix .ret xs W'
  | .exit id, _, W' => (∀ k, b ≤ k → k ≤ b + 1 → W'.heap[k]? = W2.heap[k]?) ∧ Ix (.exit id) xs W'
  | .goto t, _, W' => (∀ k, b ≤ k → k ≤ b + 1 → W'.heap[k]? = W2.heap[k]?) ∧ Ix (.goto t) xs W'
  | .panic _, _, _ => False
  | .outgrown, _, _ => False

theorem wpIn_rangeFunc_Y {α : Type} {g : Operand} {ps : Array Tmp} {assign body : Code} {Q : Exit → Act → World → Prop} {a : Act} {w : World}
    (hro : F.round = none) (h1 : 1 ≤ n) {gf : Nat} {lb : Array Value} (hg : a.eval g = .func (.func gf) #[] lb) (hFg : F.fn gf) (eg : ∀ args w, (callFunc gf args).run P w = .ok (.enter gf args) w)
    {encs : α → Array Value} {Y : List α → α → World → World → Prop} {Kp : World → World → Prop} {S Sp : List α → Prop} {w0 : World} (hseq : SeqY F (n - 1) P gf lb encs Y Kp S Sp w0)
    (hKt : ∀ {A B C : World}, Kp A B → Kp B C → Kp A C) (hKl : ∀ (W : World) (o o' : Loop), W.heap[w.heap.size + 1]? = some (.loop o) → Kp W (W.putObj (w.heap.size + 1) (.loop o'))) (hb0 : Below w0.heap.size w0 w) (hps : ∀ x, (encs x).size = ps.size)
    (hYg : ∀ pre x W0 W1, Y pre x W0 W1 → W0.grownBy W1 none)
    (I : List α → World → Prop) (Ix : Code → List α → World → Prop) (hI : ∀ s A B, I s A → A.grownBy B none → I s B) (hIl : ∀ s W (o o' : Loop), I s W → W.heap[w.heap.size + 1]? = some (.loop o) → I s (W.putObj (w.heap.size + 1) (.loop o')))
    (hIxl : ∀ c s W (o o' : Loop), Ix c s W → W.heap[w.heap.size + 1]? = some (.loop o) → Ix c s (W.putObj (w.heap.size + 1) (.loop o'))) (h0 : I [] w)
    (hround : ∀ (l : Nat) (pre : List α) (x : α) (W0 W : World), I pre W0 → Y pre x W0 W → w.heap.size + 1 < W0.heap.size →
      assign.wpIn (F.inRound l) (n - 1 - 1) P (Exit.then (fun a1 W1 => (∀ b, w.heap.size ≤ b → b ≤ w.heap.size + 1 → W1.heap[b]? = W.heap[b]?) ∧ ∀ o o' : Loop, W1.heap[w.heap.size + 1]? = some (.loop o) →
        body.wpIn (F.inRound l) (n - 1 - 1) P (postY w.heap.size Kp I Ix (pre ++ [x]) W (W1.putObj (w.heap.size + 1) (.loop o'))) a1 (W1.putObj (w.heap.size + 1) (.loop o'))) (fun _ _ _ => False))
        { tmps := (ps.zip (encs x)).foldl (fun t (p, v) => t.setIfInBounds p v) a.tmps, defers := [] } W)
    (hdone : ∀ (xs : List α) (W : World), S xs → I xs W → W.heap[w.heap.size]? = some (.deferred (some [])) → Q .normal { a with defers := { target := .collected w.heap.size, args := #[] } :: a.defers } W)
    (hstop : ∀ (c : Code) (pre : List α) (W : World), Sp pre → Ix c pre W → W.heap[w.heap.size]? = some (.deferred (some [])) → c.wpIn F n P Q { a with defers := { target := .collected w.heap.size, args := #[] } :: a.defers } W) :
    (Code.rangeFunc g ps assign body).wpIn F n P Q a w := by
  refine wpIn_rangeFunc fun fn hfn => ?_
  rw [hro]
  let st : LoopState → Option Code → Loop := fun s pe => { state := s, pending := pe, fn, tmps := a.tmps, params := ps, assign, body, defers := w.heap.size }
  obtain ⟨V, hV⟩ : ∃ V, (w.alloc (.deferred (some []))).alloc (.loop (st .ready none)) = V := ⟨_, rfl⟩
  have hVl : V.heap[w.heap.size + 1]? = some (.loop (st .ready none)) := by
    have := World.alloc_heap_new (w.alloc (.deferred (some []))) (.loop (st .ready none))
    rw [World.size_alloc, hV] at this; exact this
  have hVd : V.heap[w.heap.size]? = some (.deferred (some [])) := by rw [← hV]; exact (Below.heap_alloc _ _ _ (by simp)).trans (World.alloc_heap_new w _)
  have hVI : I [] V := by
    rw [← hV]
    exact hI _ _ _ (hI _ _ _ h0 (World.grownBy_alloc _ _ none)) (World.grownBy_alloc _ _ none)
  have hVb : Below w0.heap.size w0 V := by rw [← hV]; exact hb0.trans ((((Below.refl _ w).alloc (Nat.le_refl _) _).alloc (by simp) _).mono hb0.size)
  refine ⟨w.heap.size + 1, [{ target := .collected w.heap.size, args := #[] }], V, { target := .fn (.func gf) lb, args := #[.func (.yield (w.heap.size + 1)) #[] #[]] }, V, gf,
    #[.func (.yield (w.heap.size + 1)) #[] #[]] ++ lb, V, ?_, ?_, ?_, ?_, fun _ => h1, ?_⟩
  · rw [← hV]; exact run_enterLoop_outer _ _ _ _ _
  · simp only [resolve, hg]
    simp [go_sem]
  · intro f' hf'; simp [Target.leads] at hf'; subst hf'; exact hFg
  · simp [invoke, go_sem, eg]
  refine (hseq (w.heap.size + 1) (fun s W => I s W ∧ W.heap[w.heap.size + 1]? = some (.loop (st .ready none)) ∧ W.heap[w.heap.size]? = some (.deferred (some [])))
    (fun s W => ∃ c, Ix c s W ∧ W.heap[w.heap.size + 1]? = some (.loop (st .done (some c))) ∧ W.heap[w.heap.size]? = some (.deferred (some []))) V hVb ?_ ?_ ⟨hVI, hVl, hVd⟩).mono ?_
  · rintro s A B ⟨i1, i2, i3⟩ hgr
    exact ⟨hI _ _ _ i1 hgr, (hgr.block _ (heap_lt i2) (by simp)).trans i2, (hgr.block _ (heap_lt i3) (by simp)).trans i3⟩
  · rintro pre x W0 W ⟨i1, i2', i3'⟩ hpre
    have hgr := hYg _ _ _ _ hpre
    have i2 := (hgr.block _ (heap_lt i2') (by simp)).trans i2'
    have i3 := (hgr.block _ (heap_lt i3') (by simp)).trans i3'
    have hlt := heap_lt i2'
    refine ⟨fn, _, assign, body, run_yield (P := P) (args := encs x) i2 (by exact hps x), roundIn_of_wpIn hfn (wpIn_mono (hround _ pre x W0 W i1 hpre hlt) ?_)⟩
    intro e a1 W1 he
    cases e with
    | normal =>
      obtain ⟨hsm, hbd⟩ : (∀ b, w.heap.size ≤ b → b ≤ w.heap.size + 1 → W1.heap[b]? = W.heap[b]?) ∧ _ := he
      have k2 := (hsm (w.heap.size + 1) (by omega) (Nat.le_refl _)).trans i2
      have k3 := (hsm w.heap.size (Nat.le_refl _) (by omega)).trans i3
      have hlt1 := heap_lt k2
      refine ⟨_, run_beginRound k2 rfl, ?_⟩
      have j2 : (W1.putObj (w.heap.size + 1) (.loop (st .busy none))).heap[w.heap.size + 1]? = some (.loop (st .busy none)) := World.putObj_heap_same hlt1
      have j3 : (W1.putObj (w.heap.size + 1) (.loop (st .busy none))).heap[w.heap.size]? = some (.deferred (some [])) := (World.putObj_heap_other (by omega)).trans k3
      refine wpIn_mono (hbd (st .ready none) (st .busy none) k2) ?_
      have fin : ∀ (jump : Option Code) (W3 : World), (∀ b, w.heap.size ≤ b → b ≤ w.heap.size + 1 → W3.heap[b]? = (W1.putObj (w.heap.size + 1) (.loop (st .busy none))).heap[b]?) →
          (Instr.endRound (w.heap.size + 1) jump).run P W3 = .ok (.bool jump.isNone) (W3.putObj (w.heap.size + 1) (.loop (st (if jump.isNone then .ready else .done) jump))) ∧ W3.heap[w.heap.size + 1]? = some (.loop (st .busy none)) ∧
          (W3.putObj (w.heap.size + 1) (.loop (st (if jump.isNone then .ready else .done) jump))).heap[w.heap.size + 1]? = some (.loop (st (if jump.isNone then .ready else .done) jump)) ∧
          (W3.putObj (w.heap.size + 1) (.loop (st (if jump.isNone then .ready else .done) jump))).heap[w.heap.size]? = some (.deferred (some [])) := fun jump W3 hsame => by
        have m2 := (hsame (w.heap.size + 1) (by omega) (Nat.le_refl _)).trans j2
        have m3 := (hsame w.heap.size (Nat.le_refl _) (by omega)).trans j3
        exact ⟨run_endRound (P := P) jump m2, m2, World.putObj_heap_same (heap_lt m2), (World.putObj_heap_other (by omega)).trans m3⟩
      rintro e a3 W3 hp
      cases e with
      | normal =>
        obtain ⟨hsame, hK3, hI3⟩ := hp
        obtain ⟨hr, m2, m4, m5⟩ := fin none W3 hsame
        exact ⟨_, _, hr, .inl ⟨rfl, ⟨hIl _ _ _ _ hI3 m2, m4, m5⟩, hKt hK3 (hKl _ _ _ m2)⟩⟩
      | ret =>
        obtain ⟨hsame, hI3⟩ := hp
        obtain ⟨hr, m2, m4, m5⟩ := fin (some .ret) W3 hsame
        exact ⟨_, _, hr, .inr ⟨rfl, .ret, hIxl _ _ _ _ _ hI3 m2, m4, m5⟩⟩
      | exit id =>
        obtain ⟨hsame, hI3⟩ := hp
        obtain ⟨hr, m2, m4, m5⟩ := fin (some (.exit id)) W3 hsame
        exact ⟨_, _, hr, .inr ⟨rfl, .exit id, hIxl _ _ _ _ _ hI3 m2, m4, m5⟩⟩
      | goto t =>
        obtain ⟨hsame, hI3⟩ := hp
        obtain ⟨hr, m2, m4, m5⟩ := fin (some (.goto t)) W3 hsame
        exact ⟨_, _, hr, .inr ⟨rfl, .goto t, hIxl _ _ _ _ _ hI3 m2, m4, m5⟩⟩
      | panic ch => exact hp.elim
      | outgrown => exact hp.elim
    | _ => exact he.elim
  · rintro e W2 ⟨⟨v, rfl⟩, (⟨xs, hS, i1, i2, i3⟩ | ⟨pre, hSp, c, i1, i2, i3⟩)⟩
    · exact ⟨none, _, run_endLoop (P := P) i2 (by simp [st]), hdone xs _ hS (hIl _ _ _ _ i1 i2) ((World.putObj_heap_other (by omega)).trans i3)⟩
    · exact ⟨some c, _, run_endLoop (P := P) i2 (by simp [st]), hstop c pre _ hSp (hIxl _ _ _ _ _ i1 i2) ((World.putObj_heap_other (by omega)).trans i3)⟩
end

end Go.Proofs.YtlmdpcaikhdenaaGreat
