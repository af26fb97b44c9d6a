/- Walks of the names layer: how the reference makes a name and reads one. -/
import Derived.Test.YtfoaoofaldiajaaNmQ
import Derived.Deep.QuietTactic
import Derived.BigQuiet
import Derived.Outline
namespace Go.Proofs.Ytfoaoofaldiajaa
open Go.RowKit

theorem rdigit_any (n : Nat) (w : World) (h : n < 16) : Calls Try.prog 28 #[.int .u64 n] w fun e w' => e = .returned (.int .u8 ((hexB n).toNat : Int)) ∧ w' = w := by
  rw [hexB_toNat h]
  by_cases h10 : n < 10
  all_goals
    simp only [h10, if_true, if_false]
    go_enter Try.func28, Try.ntmps28
    go_wp2
    go_ret
    exact ⟨ret_int (by omega), rfl⟩

theorem and15_u64 (x : Int) (h0 : 0 ≤ x) (h1 : x ≤ 18446744073709551615) : bits .and .u64 x 15 = x % 16 := by
  have e : (2:Int)^64 = 18446744073709551616 := by decide
  exact bits_mask .u64 64 (by decide) (by intro n h0 h1; rw [e] at h1; rw [IntKind.wrap_u64]; omega) 4 (by decide) x h0 (by rw [e]; omega)

set_option maxRecDepth 100000 in
set_option maxHeartbeats 400000 in
theorem rname_any (h : UInt8) (n : Nat) (w : World) (hn : (n : Int) ≤ 9223372036854775807) :
    Calls Try.prog 25 #[.int .u8 h.toNat, .int .i64 n] w fun e w' => e = .returned (.string ⟨(nameL h n 16).toArray⟩) ∧ Below w.heap.size w w' := by
  obtain ⟨i0, hi, hz0, hz1, hz2⟩ := info_parts Try.info5
  go_enter Try.func25, Try.ntmps25
  go_wp2
  go_loopw [5, 6] (fun v i wr => ∃ k : Nat, k ≤ 16 ∧ i = .int .i64 (60 - 4 * k) ∧ wr.ownsRow w.heap.size 5 1 v (k + 1) ((nameL h n k).map bv) ∧ Below w.heap.size w wr) (fun _ i _ => (intOf i + 4).toNat)
  case atStart => exact ⟨0, by omega, rfl, ownsRow_lit w _ #[bv h] 5 1 1 (Nat.le_refl _) (by decide) rfl, (Below.refl _ _).alloc (Nat.le_refl _) _⟩
  case round =>
    obtain ⟨k, hk, rfl, hown, hb⟩ := hrel
    have hL := nameL_len h n k
    have hsz := hb.size
    by_cases hlt : k < 16
    · have hx : ∃ x, x = nib n k := ⟨_, rfl⟩
      obtain ⟨x, hx⟩ := hx
      have hx0 : x < 16 := by subst hx; exact nib_lt _ _
      have hbits : bits .and .u64 ((n:Int) / 2^(60-4*k)) 15 = x := by
        have h0 : (n:Int) / 2^(60-4*k) ≤ 9223372036854775807 := Int.le_trans (Int.ediv_le_self _ (by omega)) hn
        rw [and15_u64 _ (Int.ediv_nonneg (by omega) (Int.le_of_lt (Int.pow_pos (by decide)))) (by omega), hx, nib]
        norm_cast
      have HX := Lib.hid hx; clear hx
      have hdg := rdigit_any x
      go_wp2_with (first | (go_at_call 28; refine (hdg _ hx0).mono ?_; rintro e w' ⟨rfl, rfl⟩) | (at_builtin; refine wpList_append_own _ rfl _ _ 50 rfl w.heap.size 5 i0 (.int .u8 0) 1 1 Try.underlying50 hi hz0 hz1 hz2 rfl (by decide) _ _ _ rfl (hown.alloc _) ⟨_, 0, none⟩ 1 1 [bv (hexB x)] rfl rfl (cell_one_new _ _ _) (by simp [bv, Value.oneCell']) (by unfold maxLen; omega) (by omega) (by simp; omega) ?_; intro v' w1 hown1 hgrow _))
      have hb1 := (hb.alloc hsz _).grown hgrow (by simp; omega) (fun k hk => (hown.lt k hk).1)
      go_roundw
      case rel => exact ⟨k + 1, by omega, by go_num, by rw [nameL_snoc, ← HX.out, List.map_append]; exact hown1, hb1⟩
      case measure => simp [intOf]; omega
    · have hk16 : k = 16 := by omega
      subst hk16
      have hcv := run_convert_row 50 9 5 Try.underlying50 Try.underlying5 Try.underlying9 (l := nameL h n 16) (by rw [hL]; exact hown)
      clear hL
      go_wp2
      go_ret
      exact ⟨rfl, hb⟩

theorem rJournal_any (n : Int) (w : World) (hn : n ≤ 9223372036854775807) :
    Calls Try.prog 15 #[.int .i64 n] w fun e w' => e = .returned (nameAns 106 n) ∧ Below w.heap.size w w' := by
  unfold nameAns
  by_cases h0 : n < 0
  · rw [if_pos h0]
    go_enter Try.func15, Try.ntmps15
    go_wp2
    go_ret2
    exact ⟨rfl, Below.refl _ _⟩
  · obtain ⟨m, rfl⟩ := Int.eq_ofNat_of_zero_le (by omega : 0 ≤ n)
    rw [if_neg h0]
    have hc := rname_any 106 m w hn
    go_enter Try.func15, Try.ntmps15
    go_wp2_with (go_at_call 25; refine hc.mono ?_; rintro e w' ⟨rfl, hb⟩)
    go_ret2
    exact ⟨rfl, hb⟩

theorem rSegment_any (n : Int) (w : World) (hn : n ≤ 9223372036854775807) :
    Calls Try.prog 16 #[.int .i64 n] w fun e w' => e = .returned (nameAns 115 n) ∧ Below w.heap.size w w' := by
  unfold nameAns
  by_cases h0 : n < 0
  · rw [if_pos h0]
    go_enter Try.func16, Try.ntmps16
    go_wp2
    go_ret2
    exact ⟨rfl, Below.refl _ _⟩
  · obtain ⟨m, rfl⟩ := Int.eq_ofNat_of_zero_le (by omega : 0 ≤ n)
    rw [if_neg h0]
    have hc := rname_any 115 m w hn
    go_enter Try.func16, Try.ntmps16
    go_wp2_with (go_at_call 25; refine hc.mono ?_; rintro e w' ⟨rfl, hb⟩)
    go_ret2
    exact ⟨rfl, hb⟩

end Go.Proofs.Ytfoaoofaldiajaa
