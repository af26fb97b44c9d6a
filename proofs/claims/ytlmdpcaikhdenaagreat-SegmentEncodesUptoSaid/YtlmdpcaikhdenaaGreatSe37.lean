/- Texts of this claim, one behind the other: Fw4, Fw5. -/
import Derived.Test.YtlmdpcaikhdenaaGreatSe36
import Derived.Test.YtlmdpcaikhdenaaGreatSe35
set_option linter.unusedSimpArgs false
set_option linter.unusedVariables false
/- The reference of segments: Encode. -/
namespace Go.Proofs.YtlmdpcaikhdenaaGreat
open Go.RowKit Go.Maps

set_option maxRecDepth 100000 in
set_option maxHeartbeats 8000000 in
theorem rEncode_any {w : World} {f : Int} {a : Option Addr} {c : Nat} {L : List (List UInt8)} (h : EntsAt w a L) (hl : L.length ≤ 1000000000) :
    Calls Tryz.prog 10 #[.int .i64 f, .slice a L.length c] w fun e w' => ∃ U, e = .returned (.tuple #[U, .int .i64 (fitsE f 0 L : Int)]) ∧ BytesIn w' (fun b => w.heap.size ≤ b) U (encV f L) ∧ Below w.heap.size w w' := by
  have hmax : maxLen = 9223372036854775807 := rfl
  have hno : fitsE f 0 L ≠ 0 → encV f L = [] := fun h => by unfold encV; rw [if_neg h]
  by_cases h1 : f < 0
  · have hE : fitsE f 0 L = 4 := by unfold fitsE; rw [if_pos (.inl h1)]
    have g1 : decide (f < 0) = true := by simpa using h1
    rw [hno (by rw [hE]; decide), hE]
    clear hE h1 h hno
    go_enter Tryz.func10, Tryz.ntmps10
    go_wp2
    go_ret2
    exact ⟨_, rfl, BytesIn.nil _ _, Below.refl _ _⟩
  have g1 : decide (f < 0) = false := by simpa using h1
  by_cases h2 : 4611686018427387904 < f
  · have hE : fitsE f 0 L = 4 := by unfold fitsE; rw [if_pos (.inr (.inl h2))]
    have g2 : decide (4611686018427387904 < f) = true := by simpa using h2
    rw [hno (by rw [hE]; decide), hE]
    clear hE h1 h2 h hno
    go_enter Tryz.func10, Tryz.ntmps10
    go_wp2
    go_ret2
    exact ⟨_, rfl, BytesIn.nil _ _, Below.refl _ _⟩
  have g2 : decide (4611686018427387904 < f) = false := by simpa using h2
  have hin : (0 < L.length ∧ 4611686018427387905 - (((0 : Nat) : Int) + (L.length : Int)) < f) ↔ (0 < L.length ∧ 4611686018427387905 - (L.length : Int) < f) := by
    constructor
    · rintro ⟨q1, q2⟩; exact ⟨q1, by omega⟩
    · rintro ⟨q1, q2⟩; exact ⟨q1, by omega⟩
  by_cases h3 : 0 < L.length ∧ 4611686018427387905 - (L.length : Int) < f
  · have hE : fitsE f 0 L = 4 := by unfold fitsE; rw [if_pos (.inr (.inr (hin.2 h3)))]
    have hR := rreach_any (w := w) (f := f) hl (q := true) (by simpa using h3)
    rw [hno (by rw [hE]; decide), hE]
    clear hE h1 h2 h3 h hno hin
    go_enter Tryz.func10, Tryz.ntmps10
    go_wp2_with (go_at_call 39; refine hR.mono ?_; rintro _ w2 ⟨rfl, rfl⟩)
    go_ret2
    exact ⟨_, rfl, BytesIn.nil _ _, Below.refl _ _⟩
  have hR := rreach_any (w := w) (f := f) hl (q := false) (by simpa using h3)
  have hE0 : fitsE f 0 L = if 4096 < 0 + L.length then 5 else if ∃ e ∈ L, 4096 < e.length then 3 else 0 := by
    unfold fitsE; rw [if_neg (by rintro (h | h | h); exact h1 h; exact h2 h; exact h3 (hin.1 h))]
  by_cases h5 : 4096 < L.length
  · have hE : fitsE f 0 L = 5 := by rw [hE0, if_pos (by omega)]
    have g5 : decide ((4096 : Int) < (L.length : Int)) = true := by simp; omega
    rw [hno (by rw [hE]; decide), hE]
    clear hE h1 h2 h3 h hno hin hE0 h5
    go_enter Tryz.func10, Tryz.ntmps10
    go_wp2_with (go_at_call 39; refine hR.mono ?_; rintro _ w2 ⟨rfl, rfl⟩)
    go_ret2
    exact ⟨_, rfl, BytesIn.nil _ _, Below.refl _ _⟩
  have g5 : decide ((4096 : Int) < (L.length : Int)) = false := by simp; omega
  by_cases h6 : ∃ e ∈ L, 4096 < e.length
  · have hE : fitsE f 0 L = 3 := by rw [hE0, if_neg (by omega), if_pos h6]
    have hG := rlong_any (w := w) (c := c) h hl (q := true) (by simpa using h6)
    rw [hno (by rw [hE]; decide), hE]
    clear hE h1 h2 h3 h hno hin hE0 h5 h6
    go_enter Tryz.func10, Tryz.ntmps10
    go_wp2_with (first
      | (go_at_call 39; refine hR.mono ?_; rintro _ w2 ⟨rfl, rfl⟩)
      | (go_at_call 40; refine hG.mono ?_; rintro _ w2 ⟨rfl, rfl⟩))
    go_ret2
    exact ⟨_, rfl, BytesIn.nil _ _, Below.refl _ _⟩
  · have hE : fitsE f 0 L = 0 := by rw [hE0, if_neg (by omega), if_neg h6]
    have hG := rlong_any (w := w) (c := c) h hl (q := false) (by simpa using h6)
    have he : encV f L = encL f.toNat L := by unfold encV; rw [if_pos hE]
    have hx4 : ∀ e ∈ L, e.length ≤ 4096 := fun e he => Nat.not_lt.1 (fun q => h6 ⟨e, he, q⟩)
    obtain ⟨n, rfl⟩ := Int.eq_ofNat_of_zero_le (by omega : 0 ≤ f)
    have hnl : n + L.length ≤ 4611686018427387905 := by
      by_cases h0 : 0 < L.length
      · have : ¬ (4611686018427387905 - (L.length : Int) < (n : Int)) := fun q => h3 ⟨h0, q⟩
        omega
      · omega
    have hn4 : n ≤ 4611686018427387904 := by omega
    rw [he, hE]
    rw [Int.toNat_natCast]
    obtain ⟨i0, hi, hz0, hz1, hz2⟩ := info_parts Tryz.info5
    have HL := Lib.hid (And.intro hnl (And.intro hn4 hx4))
    have HE := Lib.hid h
    clear hE h1 h2 h3 h hno hin hE0 h6 hx4 hnl hn4 he
    go_enter Tryz.func10, Tryz.ntmps10
    go_wp2_with (first
      | (go_at_call 39; refine hR.mono ?_; rintro _ w2 ⟨rfl, rfl⟩)
      | (go_at_call 40; refine hG.mono ?_; rintro _ w2 ⟨rfl, rfl⟩))
    clear hR hG g1 g2 g5
    go_loopw [7, 6] (fun i o wr => ∃ (k m : Nat) (oa : Option Addr) (oc : Nat), k ≤ L.length ∧ i = .int .i64 k ∧ o = .slice oa m oc ∧ m = (encL n (L.take k)).length ∧ wr.ownsRow 0 5 1 (.slice oa m oc) m ((encL n (L.take k)).map bv) ∧ (∀ b, (Value.slice oa m oc).ownBlock = some b → w.heap.size ≤ b) ∧ Below w.heap.size w wr) (fun i _ _ => L.length - (RowKit.intOf i).toNat)
    case atStart => exact ⟨0, 0, none, 0, by omega, rfl, rfl, rfl, by simpa [encL] using World.ownsRow_nil w 0 5 1, (fun b hb => by cases hb), Below.refl _ _⟩
    case round =>
      obtain ⟨k, m, oa, oc, hk, rfl, rfl, hm, hr, hro, hbw⟩ := hrel
      by_cases hlt : k < L.length
      · obtain ⟨x, hx⟩ : ∃ x, L[k]? = some x := ⟨L[k]'hlt, by simp⟩
        obtain ⟨b1, o1, rfl, c1⟩ := (HE.out.below hbw) (fun e => by rw [e] at hlt; simp at hlt)
        obtain ⟨ua, uc, u1, r1, _, un⟩ := c1 k x hx
        have hxl := HL.out.2.2 x (List.mem_of_getElem? hx)
        have hnk : IntKind.i64.wrap ((n : Int) + (k : Int)) = ((n + k : Nat) : Int) := by exact (Go.IntWalk.i64_in _ (by have := HL.out.1; omega)).trans (by omega)
        have j0 : (k : Int) < (L.length : Int) := by omega
        have hmb : m ≤ 16859136 := by
          rw [hm]
          have := encL_len_le n (L.take k) (fun d hd => HL.out.2.2 d (List.mem_of_mem_take hd))
          rw [List.length_take] at this
          have h2 : min k L.length * 4115 ≤ 4096 * 4115 := Nat.mul_le_mul_right _ (by omega)
          omega
        have hts : L.take (k + 1) = L.take k ++ [x] := by rw [List.take_add_one, hx]; rfl
        have hlk : (L.take k).length = k := by rw [List.length_take]; omega
        have hF := rframe17_any (w := wr) (n := n + k) (by have := HL.out.1; omega) (c := uc) r1 un hxl
        have hfl : (frameL 101 (oneL (n + k) x)).length = x.length + 19 := by rw [frame_len, one_len]
        have HTS := Lib.hid (And.intro hts hlk)
        have HM := Lib.hid hm
        have HR := Lib.hid hr
        have HRO := Lib.hid hro
        have HX := Lib.hid hx
        have HFL := Lib.hid hfl
        clear c1 hts hm hr hro hx hfl r1 hlk
        go_wp2_with (first
          | (go_at_call 41; refine hF.mono ?_; rintro _ w4 ⟨U, rfl, hU, hb4⟩; obtain ⟨ub, ubc, rfl, _, ubn, ubr, ubR, _, _⟩ := hU; have hr4 := (Chg.of_below (O := fun _ => False) hb4).row HR.out (fun _ _ h => h))
          | (at_builtin; refine wpList_append_src_at _ rfl (.tmp 31) (.tmp 39) 26 rfl 0 5 i0 (.int .u8 0) 1 Tryz.underlying26 hi hz0 hz1 hz2 rfl _ _ _ rfl hr4 ub (frameL 101 (oneL (n + k) x)).length ubc ((frameL 101 (oneL (n + k) x)).map bv) rfl (by simp) ubn ubr (by intro u hu; obtain ⟨_, _, rfl⟩ := List.mem_map.1 hu; rfl) (by rw [HFL.out]; omega) (by rw [HFL.out]; omega) (Nat.zero_le _) ?_; intro v5 w5 r5 g5 at5; obtain ⟨va, vc, rfl, _, _⟩ := RowAt.of_owns r5; have hg5 := Grew.append g5 at5))
        go_roundw
        case rel =>
          have hgg := (Grew.below (.slice oa m oc) hb4).trans hg5
          have hz := hb4.size
          refine ⟨k + 1, m + (frameL 101 (oneL (n + k) x)).length, va, vc, by omega, by go_num, rfl, ?_, ?_, ?_, ?_⟩
          · rw [HTS.out.1, encL_snoc, HTS.out.2, List.length_append, ← HM.out]
          · rw [HTS.out.1, encL_snoc, HTS.out.2, List.map_append]; exact r5
          · intro b hb
            rcases hgg.2 with e | ⟨g, e, hge⟩
            · exact HRO.out b (e.symm.trans hb)
            · rw [e] at hb; cases hb; have := hbw.size; omega
          · exact hbw.trans (hgg.1.belowLo6 hbw.size (fun b hb => HRO.out b hb))
        case measure => simp [RowKit.intOf]; omega
      · obtain rfl : k = L.length := by omega
        rw [List.take_length] at hm hr
        go_wp2
        go_ret2
        refine ⟨_, rfl, ?_, hbw⟩
        subst hm
        exact BytesIn.of_owns (base := w.heap.size) (ownsRow_from hr hro) (fun b h _ => h)

end Go.Proofs.YtlmdpcaikhdenaaGreat
/- SegmentEncodes: the walk. -/
namespace Go.Proofs.YtlmdpcaikhdenaaGreat
open Go.RowKit Go.Maps

theorem encV_len (f : Int) (L : List (List UInt8)) : (encV f L).length ≤ 16859136 := by
  unfold encV
  split
  · rename_i h
    obtain ⟨_, _, _, f3, f4⟩ := fits_ok h
    have := encL_len_le f.toNat L f4
    have h2 : L.length * 4115 ≤ 4096 * 4115 := Nat.mul_le_mul_right _ (by omega)
    omega
  · simp
set_option maxRecDepth 100000 in
set_option maxHeartbeats 8000000 in
theorem segEncodes_great {w : World} (f : Int) {a : Option Addr} {c : Nat} {L : List (List UInt8)} (hA : EntsAt w a L) (hl : L.length ≤ maxLen) (hb : ∀ e ∈ L, e.length ≤ 140737488355328) (hg : greatL L = true) :
    Calls Tryz.prog 3 #[.int .i64 f, .slice a L.length c] w fun e w' => e = .returned (.bool true) ∧ Below w.heap.size w w' := by
  have hG := great17_any (c := c) hA hl hb
  rw [hg] at hG
  have HWK := Lib.hid (fun W => works17_any W)
  clear hg hb hl hA
  go_enter Tryz.func3, Tryz.ntmps3
  go_wp2_with (first
    | (go_at_call 6; refine hG.mono ?_; rintro _ w1 ⟨rfl, hb1⟩; have hw1 := HWK.out w1)
    | (go_at_call 7; refine hw1.mono ?_; rintro _ w2 ⟨rfl, hb2⟩))
  go_ret
  exact ⟨rfl, hb1.trans (hb2.mono hb1.size)⟩
set_option maxRecDepth 100000 in
set_option maxHeartbeats 32000000 in
theorem segEncodes_walk {w : World} (f : Int) {a : Option Addr} {c : Nat} {L : List (List UInt8)} (hA : EntsAt w a L) (hl : L.length ≤ maxLen) (hb : ∀ e ∈ L, e.length ≤ 140737488355328) :
    Calls Tryz.prog 3 #[.int .i64 f, .slice a L.length c] w fun e w' => e = .returned (.bool true) ∧ Below w.heap.size w w' := by
  by_cases hg : greatL L = true
  · exact segEncodes_great f hA hl hb hg
  have hg' : greatL L = false := by simpa using hg
  have hmax : maxLen = 9223372036854775807 := rfl
  obtain ⟨hn5, hb3⟩ := not_great hg'
  have hG := great17_any (c := c) hA hl hb
  rw [hg'] at hG
  obtain ⟨V, hV⟩ : ∃ V, encV f L = V := ⟨_, rfl⟩
  obtain ⟨fe, hfe⟩ : ∃ fe, fitsE f 0 L = fe := ⟨_, rfl⟩
  have hVl : V.length ≤ 16859136 := by rw [← hV]; exact encV_len f L
  have hEN : ∀ (W : World) (a' : Option Addr) (c' : Nat), EntsAt W a' L → Calls Tryz.prog 9 #[.int .i64 f, .slice a' L.length c'] W fun e w' => ∃ U, e = .returned (.tuple #[U, .int .i64 (fe : Int)]) ∧ BytesIn w' (fun b => W.heap.size ≤ b) U V ∧ Below W.heap.size W w' := fun W a' c' h => by rw [← hV, ← hfe]; exact encode_any h (by omega)
  have hREN : ∀ (W : World), EntsAt W a L → Calls Tryz.prog 10 #[.int .i64 f, .slice a L.length c] W fun e w' => ∃ U, e = .returned (.tuple #[U, .int .i64 (fe : Int)]) ∧ BytesIn w' (fun b => W.heap.size ≤ b) U V ∧ Below W.heap.size W w' := fun W h => by rw [← hV, ← hfe]; exact rEncode_any h (by omega)
  have HA := Lib.hid hA
  have HB3 := Lib.hid hb3
  have HEN := Lib.hid hEN
  have HREN := Lib.hid hREN
  have HWK := Lib.hid (fun W => works17_any W)
  have i1 : (V != V) = false := by simp
  have i2 : (V == V) = true := by simp
  have i3 : ((fe : Int) != (fe : Int)) = false := by simp
  clear hg hg' hV hfe hEN hREN hA hb hb3
  go_enter Tryz.func3, Tryz.ntmps3
  go_upto_region 9 with (first
    | (go_at_call 6; refine hG.mono ?_; rintro _ w1 ⟨rfl, hb1⟩; have hLn := lent17_any (c := c) (HA.out.below hb1) (by omega) (fun e he => by have := HB3.out e he; omega))
    | (go_at_call 8; refine hLn.mono ?_; rintro _ w2 ⟨g, c2, rfl, hLe, hb2⟩; obtain ⟨_, _, e2, hat⟩ := hLe.ents.at_; cases e2; have HLE := Lib.hid hLe; have HAT := Lib.hid hat; have hE2 := HEN.out w2 _ c2 hat; clear hLe hat hLn)
    | (go_at_call 9; refine hE4.mono ?_; rintro _ w4 ⟨U2, rfl, hU2, hb4⟩; obtain ⟨a4, c4, rfl, _⟩ := hU2.row; have HU2 := Lib.hid hU2; have hb24 := hb3.trans (hb4.mono hb3.size); have hb12 := hb1.trans (hb2.mono hb1.size); have hR5 := HREN.out w4 (HA.out.below (hb12.trans (hb24.mono hb12.size))); clear hE4 hU2)
    | (go_at_call 9; refine hE2.mono ?_; rintro _ w3 ⟨U1, rfl, hU1, hb3⟩; obtain ⟨a3, c3, rfl, _⟩ := hU1.row; have HU1 := Lib.hid hU1; have hE4 := HEN.out w3 _ c2 (HAT.out.below hb3); clear hE2 hU1)
    | (go_at_call 10; refine hR5.mono ?_; rintro _ w5 ⟨U3, rfl, hU3, hb5⟩; obtain ⟨a5, c5, rfl, _, _, r5⟩ := hU3.row; have HU3 := Lib.hid hU3; have hb25 := hb24.trans (hb5.mono hb24.size); have hb05 := hb12.trans (hb25.mono hb12.size); have hb35 := hb4.trans (hb5.mono hb4.size); have hU15 := HU1.out.below hb35; obtain ⟨_, _, e1, _, _, r1⟩ := hU15.row; cases e1; have q1 := run_conv (P := Tryz.prog) 26 9 5 Tryz.underlying26 Tryz.underlying5 Tryz.underlying9 (c := c3) r1; have q3 := run_conv (P := Tryz.prog) 26 9 5 Tryz.underlying26 Tryz.underlying5 Tryz.underlying9 (c := c5) r5; have hK5 := kept17_any (c := c2) (ca := c) (HLE.out.below hb25) (HA.out.below hb05) (by omega) (fun e he => by have := HB3.out e he; omega); clear r1 r5 hU15 hU3 hR5)
    | (go_at_call 11; refine (num17_any _ _).mono ?_; rintro _ w5 ⟨rfl, rfl⟩)
    | (go_at_call 12; refine hK5.mono ?_; rintro _ w6 ⟨rfl, hb6⟩; clear q1 q3 hK5))
  have s1 := hb1.size
  have s2 := hb2.size
  have s3 := hb3.size
  have s4 := hb4.size
  have s5 := hb5.size
  have s6 := hb6.size
  have hb36 := hb35.trans (hb6.mono hb35.size)
  have hb26 := hb25.trans (hb6.mono hb25.size)
  have hb06 := hb05.trans (hb6.mono hb05.size)
  have hb46 := hb5.trans (hb6.mono hb5.size)
  obtain ⟨_, _, e1, _, _, _, hR1, _, ho1⟩ := HU1.out.below hb36; cases e1
  have hlt1 : ∀ b, (Value.slice a3 V.length c3).ownBlock = some b → w2.heap.size ≤ b ∧ b < w3.heap.size := fun b h => by
    obtain ⟨_, _, e1, _, _, _, k1, k2, k3⟩ := HU1.out; cases e1
    refine ⟨?_, (k3.lt b h).2⟩
    cases a3 with
    | none => cases h
    | some y => have e0 := k2 y rfl; rw [e0] at h; cases h; exact k1 y rfl
  have HLT1 := Lib.hid hlt1
  have HO1 := Lib.hid ho1
  clear hlt1 ho1 hR1 hG
  go_wp2
  go_loopw [12] (fun i wr => ∃ k : Nat, k ≤ V.length ∧ i = .int .i64 k ∧ Chg (fun b => (Value.slice a3 V.length c3).ownBlock = some b) w6 wr ∧ ∃ ys, wr.ownsRow 0 5 1 (.slice a3 V.length c3) V.length ys) (fun i _ => V.length - (RowKit.intOf i).toNat)
  case atStart => exact ⟨0, by omega, rfl, Chg.refl _ _, _, HO1.out⟩
  case round =>
    obtain ⟨k, hk, rfl, hc, ys, hr⟩ := hrel
    by_cases hlt : k < V.length
    · obtain ⟨g3, rfl⟩ : ∃ g3, a3 = some ⟨g3, 0, none⟩ := by
        rcases hr.2 with ⟨e, hz⟩ | ⟨g', cap, cur, e, _⟩
        · omega
        · cases e; exact ⟨g', rfl⟩
      obtain ⟨⟨u0, q0⟩, f0, hset⟩ := ownsRow_set hr (g := g3) rfl k hlt (.int .u8 0)
      have hc2 : Chg (fun b => (Value.slice (some ⟨g3, 0, none⟩) V.length c3).ownBlock = some b) wr (wr.setCell ⟨g3, k, none⟩ (.int .u8 0)) := Chg.set _ rfl
      have hc3' := hc.trans hc2 (fun _ h _ => h)
      have j2 : (0 : Int) ≤ (k : Int) := by omega
      have j3 : (k : Int) < (V.length : Int) := by omega
      have HSS := Lib.hid (And.intro hset hc3')
      clear hset hc2 hc3' hc hr
      go_wp2
      go_roundw
      case rel => exact ⟨k + 1, by omega, by go_num, HSS.out.2, _, HSS.out.1⟩
      case measure => simp [RowKit.intOf]; omega
    · obtain rfl : k = V.length := by omega
      have hLr := ((HLE.out.lt.below hb26).kept (R' := fun b => w1.heap.size ≤ b ∧ b < w2.heap.size) hc (fun b hb e => by have := HLT1.out b e; omega) (fun b hb => hb))
      obtain ⟨vs, t1, t2, t3⟩ := hLr.ents.spoil (fun e he => by have := HB3.out e he; omega)
      have hsp := spoilt_any t1 t2
      have hb0r : Below w.heap.size w wr := hb06.trans (hc.belowLo6 hb06.size (fun b e => by have := HLT1.out b e; omega))
      have hU2r := (HU2.out.below hb46).kept (R' := fun b => w3.heap.size ≤ b) hc (fun b hb e => by have := HLT1.out b e; omega) (fun b hb => hb)
      have hU3r := (HU3.out.below hb6).kept (R' := fun b => w3.heap.size ≤ b) hc (fun b hb e => by have := HLT1.out b e; omega) (fun b hb => by omega)
      have HT := Lib.hid (And.intro t3 (And.intro hb0r (And.intro hU2r hU3r)))
      clear t1 t2 t3 hLr hU2r hU3r hr hlt
      go_wp2_with (first
        | (go_at_call 13; refine hsp.mono ?_; rintro _ w7 ⟨rfl, hc7⟩; obtain ⟨t3, hb0r, hU2r, hU3r⟩ := HT.out; have hc7' : Chg (fun b => w1.heap.size ≤ b ∧ b < w2.heap.size) wr w7 := hc7.mono (fun x ⟨y, hy, hyx⟩ _ => t3 y hy x hyx); have hU27 := hU2r.kept (R' := fun _ => True) hc7' (fun b hb e => by omega) (fun _ _ => trivial); have hU37 := hU3r.kept (R' := fun _ => True) hc7' (fun b hb e => by omega) (fun _ _ => trivial); obtain ⟨_, _, e2, _, _, r2⟩ := hU27.row; cases e2; obtain ⟨_, _, e3, _, _, r3⟩ := hU37.row; cases e3; have q2 := run_conv (P := Tryz.prog) 26 9 5 Tryz.underlying26 Tryz.underlying5 Tryz.underlying9 (c := c4) r2; have q4 := run_conv (P := Tryz.prog) 26 9 5 Tryz.underlying26 Tryz.underlying5 Tryz.underlying9 (c := c5) r3; have hb07 : Below w.heap.size w w7 := hb0r.trans (hc7'.belowLo6 hb0r.size (fun b e => by omega)); have hw7 := HWK.out w7; clear r2 r3 hU27 hU37 hU2r hU3r t3 hb0r)
        | (go_at_call 7; refine hw7.mono ?_; rintro _ w8 ⟨rfl, hb8⟩))
      go_ret
      exact ⟨rfl, hb07.trans (hb8.mono hb07.size)⟩

end Go.Proofs.YtlmdpcaikhdenaaGreat
