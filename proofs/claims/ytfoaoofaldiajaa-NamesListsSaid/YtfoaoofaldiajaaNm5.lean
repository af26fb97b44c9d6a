/- Walks of the names layer: the reference's reading of a name. -/
import Derived.Test.YtfoaoofaldiajaaNm4
namespace Go.Proofs.Ytfoaoofaldiajaa
open Go.RowKit

theorem dz_pow (r : List UInt8) (j : Nat) (hj : j < r.length) : valOf (r.take (j + 1)) = valOf (r.take j) * 16 + dz r[j] := by
  rw [List.take_succ_eq_append_getElem hj, valOf_snoc]
/-- what the inner loop has added behind m turns -/
def part (c : UInt8) (m : Nat) : Nat := match dval c with | some d => if d < m then d else 0 | none => 0
theorem part_16 (c : UInt8) : part c 16 = dz c := by
  unfold part dz
  cases h : dval c with
  | none => rfl
  | some d => simp [dval_lt h]
theorem part_0 (c : UInt8) : part c 0 = 0 := by unfold part; cases dval c <;> rfl
theorem part_hit (m : Nat) (hm : m < 16) : part (hexB m) (m + 1) = m ∧ part (hexB m) m = 0 := by
  unfold part; rw [dval_hexB hm]; simp
theorem part_miss (c : UInt8) (m : Nat) (hm : m < 16) (h : hexB m ≠ c) : part c (m + 1) = part c m := by
  unfold part
  cases hd : dval c with
  | none => rfl
  | some d =>
    have : d ≠ m := fun e => h (e ▸ hexB_dval hd)
    by_cases hlt : d < m
    · simp [hlt]; omega
    · simp [hlt]; omega
theorem part_lt (c : UInt8) (m : Nat) : part c m < 16 := by
  unfold part
  cases hd : dval c with
  | none => simp
  | some d => have := dval_lt hd; simp only []; split <;> omega

theorem or_digit (N k m : Nat) (hk : k < 16) (hN : N < 16 ^ k) (hm : m < 16) :
    bits .or .u64 ((N * 16 ^ (16 - k) : Nat) : Int) (IntKind.u64.wrap ((m : Int) * 2 ^ (64 - 4 * (k + 1)))) = ((N * 16 ^ (16 - k) + m * 16 ^ (15 - k) : Nat) : Int) := by
  have e1 : 16 ^ (16 - k) = 2 ^ (64 - 4 * k) := by rw [show 64 - 4 * k = 4 * (16 - k) from by omega, Nat.pow_mul]
  have e2 : 16 ^ (15 - k) = 2 ^ (64 - 4 * (k + 1)) := by rw [show 64 - 4 * (k + 1) = 4 * (15 - k) from by omega, Nat.pow_mul]
  have e3 : 2 ^ (64 - 4 * k) = 16 * 2 ^ (64 - 4 * (k + 1)) := by rw [show 64 - 4 * k = 64 - 4 * (k + 1) + 4 from by omega, Nat.pow_add]; omega
  have hb : m * 2 ^ (64 - 4 * (k + 1)) < 2 ^ (64 - 4 * k) := by
    rw [e3]; exact Nat.mul_lt_mul_of_pos_right hm (Nat.two_pow_pos _)
  have hle : 2 ^ (64 - 4 * k) ≤ 18446744073709551616 := Nat.le_trans (Nat.pow_le_pow_right (by decide) (by omega : 64 - 4 * k ≤ 64)) (by decide)
  have hA : N * 2 ^ (64 - 4 * k) < 18446744073709551616 := by
    have h2 : 16 ^ k * 2 ^ (64 - 4 * k) = 18446744073709551616 := by
      rw [show 16 ^ k = 2 ^ (4 * k) from by rw [Nat.pow_mul], ← Nat.pow_add, show 4 * k + (64 - 4 * k) = 64 from by omega]
    rw [← h2]; exact Nat.mul_lt_mul_of_pos_right hN (Nat.two_pow_pos _)
  have hc : ((m : Int) * 2 ^ (64 - 4 * (k + 1))) = ((m * 2 ^ (64 - 4 * (k + 1)) : Nat) : Int) := by norm_cast
  rw [hc, IntKind.wrap_u64, show ((m * 2 ^ (64 - 4 * (k + 1)) : Nat) : Int) % 18446744073709551616 = ((m * 2 ^ (64 - 4 * (k + 1)) : Nat) : Int) from by omega, e1, e2, bits_or_u64_nat _ _ hA (by omega)]
  have h := Nat.shiftLeft_add_eq_or_of_lt hb N
  rw [Nat.shiftLeft_eq] at h
  rw [h]

set_option maxRecDepth 100000 in
set_option maxHeartbeats 1000000 in
theorem rParse_17 (l : List UInt8) (h : UInt8) (r : List UInt8) (w : World) (hl : l = h :: r) (h3 : r.length = 16) : Calls Try.prog 18 #[.string ⟨l.toArray⟩] w fun e w' => e = .returned (.tuple #[.int .i64 (refNum h r).1, .int .i64 (refNum h r).2]) ∧ Below w.heap.size w w' := by
  have hl17 : l.length = 17 := by simp [hl, h3]
  have g1 : (l == [112, 111, 105, 110, 116]) = false := by
    rw [beq_eq_false_iff_ne]; intro e; rw [e] at hl17; simp at hl17
  have g2 : (l == [112, 111, 105, 110, 116, 46, 110, 101, 119]) = false := by
    rw [beq_eq_false_iff_ne]; intro e; rw [e] at hl17; simp at hl17
  have g3 : ((l.length : Int) != 17) = false := by simp; omega
  have hix : ∀ k (hk : k < r.length) wx, (Instr.index 9 (.string ⟨l.toArray⟩) (.int .i64 ((k : Int) + 1))).run Try.prog wx = .ok (.int .u8 (r[k].toNat : Int)) wx := by
    intro k hk wx
    have := run_index_str 9 Try.underlying9 l (k + 1) (by omega) wx
    simpa [hl, bv] using this
  have HIX := Lib.hid hix; clear hix
  have HL := Lib.hid hl; clear hl
  have H17 := Lib.hid hl17; clear hl17
  have H3 := Lib.hid h3; clear h3
  go_enter Try.func18, Try.ntmps18
  go_wp2
  go_loopw [4, 5] (fun n i wr => ∃ k x : Nat, k ≤ 16 ∧ i = .int .i64 ((k : Int) + 1) ∧ n = .int .u64 (x : Int) ∧ Hid (x = valOf (r.take k) * 16 ^ (16 - k)) ∧ Below w.heap.size w wr) (fun _ i _ => 17 - (intOf i).toNat)
  case atStart => exact ⟨0, 0, by omega, by go_num, rfl, by show 0 = _; simp [valOf], Below.refl _ _⟩
  case round =>
    obtain ⟨k, x, hk, rfl, rfl, HX, hb⟩ := hrel
    by_cases hlt : k < 16
    · have hkr : k < r.length := by rw [H3.out]; exact hlt
      have hidx := HIX.out k hkr
      have hdz := dz_pow r k hkr
      generalize r[k] = ch at hidx hdz
      have HDZ := Lib.hid hdz; clear hdz
      go_wp2
      go_loopw [4, 6] (fun n d wr' => ∃ m y : Nat, m ≤ 16 ∧ d = .int .u64 (m : Int) ∧ n = .int .u64 (y : Int) ∧ Hid (y = x + part ch m * 16 ^ (15 - k)) ∧ Below w.heap.size w wr') (fun _ d _ => 16 - (intOf d).toNat)
      case atStart => exact ⟨0, x, by omega, rfl, rfl, by show x = _; simp [part_0], hb⟩
      case round =>
        obtain ⟨m, y, hm, rfl, rfl, HY, hb'⟩ := hrel
        by_cases hmlt : m < 16
        · have hdg := rdigit_any m
          by_cases heq : hexB m = ch
          · have hbq : ((ch.toNat : Int) == (ch.toNat : Int)) = true := by simp
            subst heq
            have hy : y = x := by have := HY.out; rw [(part_hit m hmlt).2] at this; simpa using this
            have hvl := valOf_lt (r.take k)
            rw [List.length_take, Nat.min_eq_left (by rw [H3.out]; omega)] at hvl
            have hor := or_digit _ k m hlt hvl hmlt
            rw [← HX.out, ← hy] at hor
            have HYX := Lib.hid hy; clear hy hvl
            go_wp2
            go_quiet ((go_at_call 28; exact Calls.quiet_of_same (hdg _ hmlt)))
            go_wp2
            go_roundw
            case rel => exact ⟨m + 1, y + m * 16 ^ (15 - k), by omega, by go_num, by go_num, by show _ = _; rw [HYX.out, (part_hit m hmlt).1], below_drewN hb' _⟩
            case measure => simp [intOf]; omega
          · have hbq : (((hexB m).toNat : Int) == (ch.toNat : Int)) = false := by
              rw [beq_eq_false_iff_ne]; intro e; exact heq (UInt8.toNat_inj.1 (by omega))
            have HE := Lib.hid heq; clear heq
            go_wp2
            go_quiet ((go_at_call 28; exact Calls.quiet_of_same (hdg _ hmlt)))
            go_wp2
            go_roundw
            case rel => exact ⟨m + 1, y, by omega, by go_num, rfl, by show _ = _; rw [part_miss ch m hmlt HE.out]; exact HY.out, below_drewN hb' _⟩
            case measure => simp [intOf]; omega
        · obtain rfl : m = 16 := by omega
          go_wp2
          go_roundw
          case rel =>
            refine ⟨k + 1, y, by omega, by go_num, rfl, ?_, hb'⟩
            show _ = _
            rw [HY.out, HX.out, HDZ.out, part_16, show 16 - k = (15 - k) + 1 from by omega, show 16 - (k + 1) = 15 - k from by omega, Nat.pow_succ, Nat.add_mul, Nat.mul_assoc, Nat.mul_comm (16 ^ _) 16]
          case measure => simp [intOf]; omega
    · obtain rfl : k = 16 := by omega
      have hx : x = valOf r := by have := HX.out; rwa [List.take_of_length_le (by rw [H3.out]; omega), Nat.sub_self, Nat.pow_zero, Nat.mul_one] at this
      have hvl := valOf_lt r
      rw [H3.out] at hvl
      have HV := Lib.hid hx; clear hx
      have HVL := Lib.hid hvl; clear hvl
      by_cases hbig : 9223372036854775808 ≤ x
      · have hbi : (9223372036854775808 : Int) ≤ (x : Int) := by omega
        have HB := Lib.hid hbig; clear hbig
        go_wp2
        go_ret2
        rw [HV.out] at HB
        simp [refNum, HB.out]
        exact hb
      · have hbi : ¬ (9223372036854775808 : Int) ≤ (x : Int) := by omega
        have hbi2 : (x : Int) ≤ 9223372036854775807 := by omega
        have HB := Lib.hid hbig; clear hbig
        have c1 := rname_any 106 x
        have c2 := rname_any 115 x
        by_cases e1 : nameL 106 x 16 = l
        · have b1 : (nameL 106 x 16 == l) = true := by simpa using e1
          have E1 := Lib.hid e1; clear e1
          go_wp2_with (go_at_call 25; refine (c1 _ hbi2).mono ?_; rintro e w' ⟨rfl, hb2⟩)
          go_ret2
          have hq := E1.out
          rw [HL.out, HV.out] at hq
          rw [HV.out] at HB ⊢
          simp [refNum, HB.out, hq]
          exact hb.trans (hb2.mono hb.size)
        · have b1 : (nameL 106 x 16 == l) = false := by simpa using e1
          have E1 := Lib.hid e1; clear e1
          by_cases e2 : nameL 115 x 16 = l
          · have b2 : (nameL 115 x 16 == l) = true := by simpa using e2
            have E2 := Lib.hid e2; clear e2
            go_wp2_with fail
            refine (c1 _ hbi2).mono ?_
            rintro e w1 ⟨rfl, hb1⟩
            go_wp2_with fail
            refine (c2 _ hbi2).mono ?_
            rintro e w2 ⟨rfl, hb2⟩
            go_wp2
            go_ret2
            have hq := E1.out
            have hq2 := E2.out
            rw [HL.out, HV.out] at hq hq2
            rw [HV.out] at HB ⊢
            simp [refNum, HB.out, hq, hq2]
            exact (hb.trans (hb1.mono hb.size)).trans (hb2.mono (Nat.le_trans hb.size hb1.size))
          · have b2 : (nameL 115 x 16 == l) = false := by simpa using e2
            have E2 := Lib.hid e2; clear e2
            go_wp2_with fail
            refine (c1 _ hbi2).mono ?_
            rintro e w1 ⟨rfl, hb1⟩
            go_wp2_with fail
            refine (c2 _ hbi2).mono ?_
            rintro e w2 ⟨rfl, hb2⟩
            go_wp2
            go_ret2
            have hq := E1.out
            have hq2 := E2.out
            rw [HL.out, HV.out] at hq hq2
            rw [HV.out] at HB
            simp [refNum, HB.out, hq, hq2]
            exact (hb.trans (hb1.mono hb.size)).trans (hb2.mono (Nat.le_trans hb.size hb1.size))

set_option maxHeartbeats 400000 in
theorem rParse_point (w : World) : Calls Try.prog 18 #[.string ⟨pointL.toArray⟩] w fun e w' => e = .returned (.tuple #[.int .i64 3, .int .i64 0]) ∧ w = w' := by
  unfold pointL
  go_enter Try.func18, Try.ntmps18
  go_wp2
  go_ret2
  exact ⟨rfl, rfl⟩
set_option maxHeartbeats 400000 in
theorem rParse_other (w : World) : Calls Try.prog 18 #[.string ⟨otherL.toArray⟩] w fun e w' => e = .returned (.tuple #[.int .i64 4, .int .i64 0]) ∧ w = w' := by
  unfold otherL
  go_enter Try.func18, Try.ntmps18
  go_wp2
  go_ret2
  exact ⟨rfl, rfl⟩
set_option maxHeartbeats 400000 in
theorem rParse_long (l : List UInt8) (w : World) (h1 : l ≠ pointL) (h2 : l ≠ otherL) (h3 : l.length ≠ 17) : Calls Try.prog 18 #[.string ⟨l.toArray⟩] w fun e w' => e = .returned (.tuple #[.int .i64 0, .int .i64 0]) ∧ w = w' := by
  have g1 : (l == [112, 111, 105, 110, 116]) = false := by simpa [pointL] using h1
  have g2 : (l == [112, 111, 105, 110, 116, 46, 110, 101, 119]) = false := by simpa [otherL] using h2
  have g3 : ((l.length : Int) != 17) = true := by simp; omega
  clear h1 h2 h3
  go_enter Try.func18, Try.ntmps18
  go_wp2
  go_ret2
  exact ⟨rfl, rfl⟩

theorem rParse_any (l : List UInt8) (w : World) : Calls Try.prog 18 #[.string ⟨l.toArray⟩] w fun e w' => e = .returned (.tuple #[.int .i64 (parse l).1, .int .i64 (parse l).2]) ∧ Below w.heap.size w w' := by
  unfold parse
  by_cases h1 : l = pointL
  · rw [if_pos h1, h1]; exact (rParse_point w).mono fun e w' ⟨a, b⟩ => ⟨a, b ▸ Below.refl _ _⟩
  · rw [if_neg h1]
    by_cases h2 : l = otherL
    · rw [if_pos h2, h2]; exact (rParse_other w).mono fun e w' ⟨a, b⟩ => ⟨a, b ▸ Below.refl _ _⟩
    · rw [if_neg h2]
      by_cases h3 : l.length = 17
      · rw [if_neg (by simpa using h3)]
        match l, h3 with
        | h :: r, h3 => have := rParse_17 (h :: r) h r w rfl (by simpa using h3); rw [refNum_eq h r (by simpa using h3)] at this; exact this
      · rw [if_pos h3]; exact (rParse_long l w h1 h2 h3).mono fun e w' ⟨a, b⟩ => ⟨a, b ▸ Below.refl _ _⟩

end Go.Proofs.Ytfoaoofaldiajaa
