/- Walks of the names layer: how a name is made, by the program and by the reference. -/
import Derived.Test.YtfoaoofaldiajaaRows
import Derived.Test.YtfoaoofaldiajaaLib
import Derived.Outline
namespace Go.Proofs.Ytfoaoofaldiajaa
open Go.RowKit

def nib (n k : Nat) : Nat := n / 2 ^ (60 - 4 * k) % 16
def hexB (n : Nat) : UInt8 := if n < 10 then UInt8.ofNat (48 + n) else UInt8.ofNat (87 + n)
def nameL (h : UInt8) (n : Nat) (k : Nat) : List UInt8 := h :: (List.range k).map (fun j => hexB (nib n j))

theorem nib_lt (n k : Nat) : nib n k < 16 := by unfold nib; omega
theorem nameL_len (h : UInt8) (n k : Nat) : (nameL h n k).length = k + 1 := by simp [nameL]
theorem nameL_snoc (h : UInt8) (n k : Nat) : nameL h n (k + 1) = nameL h n k ++ [hexB (nib n k)] := by simp [nameL, List.range_succ]

theorem Try.info5 : (Try.prog.info? 5).map (fun i => (i.zero, i.size, i.bytes)) = some (some (.int .u8 0), 1, 1) := by kernel_rfl

def hexS : ByteArray := ⟨#[48, 49, 50, 51, 52, 53, 54, 55, 56, 57, 97, 98, 99, 100, 101, 102]⟩
theorem lt16 {x : Nat} (hx : x < 16) : x = 0 ∨ x = 1 ∨ x = 2 ∨ x = 3 ∨ x = 4 ∨ x = 5 ∨ x = 6 ∨ x = 7 ∨ x = 8 ∨ x = 9 ∨ x = 10 ∨ x = 11 ∨ x = 12 ∨ x = 13 ∨ x = 14 ∨ x = 15 := by omega
theorem hex_at (x : Nat) (hx : x < 16) : ∃ h : x < hexS.size, hexS[x] = hexB x := by
  rcases lt16 hx with h | h | h | h | h | h | h | h | h | h | h | h | h | h | h | h <;> subst h <;> exact ⟨by decide, by decide⟩

theorem and15_i64 (x : Int) (h0 : 0 ≤ x) (h1 : x ≤ 9223372036854775807) : bits .and .i64 x 15 = x % 16 := by
  have e : (2:Int)^63 = 9223372036854775808 := by decide
  exact bits_mask .i64 63 (by decide) (by intro n h0 h1; rw [e] at h1; exact IntWalk.i64_in n ⟨by omega, by omega⟩) 4 (by decide) x h0 (by rw [e]; omega)

theorem run_idx_hex (x : Nat) (hx : x < 16) (w : World) : (Instr.index 9 (.string ⟨#[48, 49, 50, 51, 52, 53, 54, 55, 56, 57, 97, 98, 99, 100, 101, 102]⟩) (.int .i64 (x : Int))).run Try.prog w = .ok (.int .u8 ((hexB x).toNat : Int)) w := by
  obtain ⟨h, e⟩ := hex_at x hx
  rw [← e]
  unfold hexS at *
  rw [run_index_string (t := 9) (k := .i64) (h := Try.underlying9)]
  rw [dif_pos ⟨by omega, by simpa using h⟩]
  simp

set_option maxRecDepth 100000 in
set_option maxHeartbeats 400000 in
theorem numbered_any (h : UInt8) (n : Nat) (w : World) (hn : (n : Int) ≤ 9223372036854775807) :
    Calls Try.prog 26 #[.int .u8 h.toNat, .int .i64 n] w fun e w' => e = .returned (.tuple #[.string ⟨(nameL h n 16).toArray⟩, .int .i64 0]) ∧ Below w.heap.size w w' := by
  obtain ⟨i0, hi, hz0, hz1, hz2⟩ := info_parts Try.info5
  go_enter Try.func26, Try.ntmps26
  go_wp2
  go_loopw [6, 7] (fun v i wr => ∃ k : Nat, k ≤ 16 ∧ i = .int .i64 (60 - 4 * k) ∧ wr.ownsRow w.heap.size 5 1 v (k + 1) ((nameL h n k).map bv) ∧ Below w.heap.size w wr) (fun _ i _ => (intOf i + 4).toNat)
  case atStart => exact ⟨0, by omega, rfl, ownsRow_lit w _ #[bv h] 5 1 1 (Nat.le_refl _) (by decide) rfl, (Below.refl _ _).alloc (Nat.le_refl _) _⟩
  case round =>
    obtain ⟨k, hk, rfl, hown, hb⟩ := hrel
    have hL := nameL_len h n k
    have hsz := hb.size
    by_cases hlt : k < 16
    · have hx : ∃ x, x = nib n k := ⟨_, rfl⟩
      obtain ⟨x, hx⟩ := hx
      have hx0 : x < 16 := by subst hx; exact nib_lt _ _
      have hbits : bits .and .i64 ((n:Int) / 2^(60-4*k)) 15 = x := by
        rw [and15_i64 _ (Int.ediv_nonneg (by omega) (Int.le_of_lt (Int.pow_pos (by decide)))) (by exact Int.le_trans (Int.ediv_le_self _ (by omega)) hn), hx, nib]
        norm_cast
      have hidx := run_idx_hex x hx0
      have HX := Lib.hid hx; clear hx
      go_wp2_with (at_builtin; refine wpList_append_own _ rfl _ _ 50 rfl w.heap.size 5 i0 (.int .u8 0) 1 1 Try.underlying50 hi hz0 hz1 hz2 rfl (by decide) _ _ _ rfl (hown.alloc _) ⟨wr.heap.size, 0, none⟩ 1 1 [bv (hexB x)] rfl rfl (cell_one_new _ _ _) (by simp [bv, Value.oneCell']) (by unfold maxLen; omega) (by omega) (by simp; omega) ?_; intro v' w1 hown1 hgrow _)
      have hb1 := (hb.alloc hsz _).grown hgrow (by simp; omega) (fun k hk => (hown.lt k hk).1)
      go_roundw
      case rel => exact ⟨k + 1, by omega, by go_num, by rw [nameL_snoc, ← HX.out, List.map_append]; exact hown1, hb1⟩
      case measure => simp [intOf]; omega
    · have hk16 : k = 16 := by omega
      subst hk16
      have hcv := run_convert_row 50 9 5 Try.underlying50 Try.underlying5 Try.underlying9 (l := nameL h n 16) (by rw [hL]; exact hown)
      clear hL
      go_wp2
      go_ret2
      exact ⟨rfl, hb⟩

theorem numbered_neg (h : UInt8) (n : Int) (w : World) (hn : n < 0) :
    Calls Try.prog 26 #[.int .u8 h.toNat, .int .i64 n] w fun e w' => e = .returned (.tuple #[.string ⟨#[]⟩, .int .i64 4]) ∧ w = w' := by
  go_enter Try.func26, Try.ntmps26
  go_wp2
  go_ret2
  exact ⟨rfl, rfl⟩

/-- what a name's maker answers -/
def nameAns (h : UInt8) (n : Int) : Value := if n < 0 then .tuple #[.string ⟨#[]⟩, .int .i64 4] else .tuple #[.string ⟨(nameL h n.toNat 16).toArray⟩, .int .i64 0]

theorem numbered_all (h : UInt8) (n : Int) (w : World) (hn : n ≤ 9223372036854775807) :
    Calls Try.prog 26 #[.int .u8 h.toNat, .int .i64 n] w fun e w' => e = .returned (nameAns h n) ∧ Below w.heap.size w w' := by
  unfold nameAns
  by_cases h0 : n < 0
  · rw [if_pos h0]; exact (numbered_neg h n w h0).mono fun e w' ⟨a, b⟩ => ⟨a, b ▸ Below.refl _ _⟩
  · obtain ⟨m, rfl⟩ := Int.eq_ofNat_of_zero_le (by omega : 0 ≤ n)
    rw [if_neg h0]; exact numbered_any h m w hn

theorem Journal_any (n : Int) (w : World) (hn : n ≤ 9223372036854775807) :
    Calls Try.prog 13 #[.int .i64 n] w fun e w' => e = .returned (nameAns 106 n) ∧ Below w.heap.size w w' := by
  have hc := numbered_all 106 n w hn
  by_cases h0 : n < 0
  all_goals
    simp only [nameAns, h0, if_true, if_false] at hc ⊢
    go_enter Try.func13, Try.ntmps13
    go_wp2_with (go_at_call 26; refine hc.mono ?_; rintro e w' ⟨rfl, hb⟩)
    go_ret2
    exact ⟨rfl, hb⟩

theorem Segment_any (n : Int) (w : World) (hn : n ≤ 9223372036854775807) :
    Calls Try.prog 14 #[.int .i64 n] w fun e w' => e = .returned (nameAns 115 n) ∧ Below w.heap.size w w' := by
  have hc := numbered_all 115 n w hn
  by_cases h0 : n < 0
  all_goals
    simp only [nameAns, h0, if_true, if_false] at hc ⊢
    go_enter Try.func14, Try.ntmps14
    go_wp2_with (go_at_call 26; refine hc.mono ?_; rintro e w' ⟨rfl, hb⟩)
    go_ret2
    exact ⟨rfl, hb⟩

end Go.Proofs.Ytfoaoofaldiajaa
