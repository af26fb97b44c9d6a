/- Walks of the names layer: what a name is of, by the program. -/
import Derived.Test.YtfoaoofaldiajaaNmP
import Derived.Outline
namespace Go.Proofs.Ytfoaoofaldiajaa
open Go.RowKit

theorem firstIdx_hex (c : UInt8) : firstIdx ⟨#[48, 49, 50, 51, 52, 53, 54, 55, 56, 57, 97, 98, 99, 100, 101, 102]⟩ c = didx c := by
  have : ∀ n : Fin 256, firstIdx ⟨#[48, 49, 50, 51, 52, 53, 54, 55, 56, 57, 97, 98, 99, 100, 101, 102]⟩ (UInt8.ofNat n.val) = didx (UInt8.ofNat n.val) := by decide +kernel
  have h := this ⟨c.toNat, c.toNat_lt⟩
  simpa using h

theorem indexByte_hex_run (c : UInt8) (w : World) :
    (callFunc 44 #[.string ⟨#[48, 49, 50, 51, 52, 53, 54, 55, 56, 57, 97, 98, 99, 100, 101, 102]⟩, .int .u8 (c.toNat : Int)]).run Try.prog w = .ok (.value (.int .i64 (didx c))) w := by
  rw [run_callFunc_extern Try.func44 (by kernel_rfl) (by kernel_rfl) (by kernel_rfl) (e := Extern.BytealgIndexByte.indexByte) (by kernel_rfl), run_indexByte_string]
  simp only [Result.andThen]
  rw [show (c.toNat : Int).toNat.toUInt8 = c from by simp, firstIdx_hex]

set_option maxHeartbeats 400000 in
theorem IndexByte_hex (c : UInt8) (w : World) :
    Calls Try.prog 27 #[.string ⟨#[48, 49, 50, 51, 52, 53, 54, 55, 56, 57, 97, 98, 99, 100, 101, 102]⟩, .int .u8 (c.toNat : Int)] w fun e w' => e = .returned (.int .i64 (didx c)) ∧ w = w' := by
  have hx := indexByte_hex_run c
  go_enter Try.func27, Try.ntmps27
  go_wp2
  go_ret
  exact ⟨rfl, rfl⟩

set_option maxHeartbeats 400000 in
theorem Parse_point (w : World) : Calls Try.prog 17 #[.string ⟨pointL.toArray⟩] w fun e w' => e = .returned (.tuple #[.int .i64 3, .int .i64 0]) ∧ w = w' := by
  unfold pointL
  go_enter Try.func17, Try.ntmps17
  go_wp2
  go_ret2
  exact ⟨rfl, rfl⟩

set_option maxHeartbeats 400000 in
theorem Parse_other (w : World) : Calls Try.prog 17 #[.string ⟨otherL.toArray⟩] w fun e w' => e = .returned (.tuple #[.int .i64 4, .int .i64 0]) ∧ w = w' := by
  unfold otherL
  go_enter Try.func17, Try.ntmps17
  go_wp2
  go_ret2
  exact ⟨rfl, rfl⟩

set_option maxHeartbeats 400000 in
theorem Parse_long (l : List UInt8) (w : World) (h1 : l ≠ pointL) (h2 : l ≠ otherL) (h3 : l.length ≠ 17) : Calls Try.prog 17 #[.string ⟨l.toArray⟩] w fun e w' => e = .returned (.tuple #[.int .i64 0, .int .i64 0]) ∧ w = w' := by
  have g1 : (l == [112, 111, 105, 110, 116]) = false := by simpa [pointL] using h1
  have g2 : (l == [112, 111, 105, 110, 116, 46, 110, 101, 119]) = false := by simpa [otherL] using h2
  have g3 : ((l.length : Int) != 17) = true := by simp; omega
  clear h1 h2 h3
  go_enter Try.func17, Try.ntmps17
  go_wp2
  go_ret2
  exact ⟨rfl, rfl⟩

set_option maxRecDepth 100000 in
set_option maxHeartbeats 400000 in
theorem Parse_17 (l : List UInt8) (h : UInt8) (r : List UInt8) (w : World) (hl : l = h :: r) (h3 : r.length = 16) : Calls Try.prog 17 #[.string ⟨l.toArray⟩] w fun e w' => e = .returned (.tuple #[.int .i64 (numOf h r).1, .int .i64 (numOf h r).2]) ∧ Below w.heap.size w w' := by
  have hl17 : l.length = 17 := by simp [hl, h3]
  have g1 : (l == [112, 111, 105, 110, 116]) = false := by
    rw [beq_eq_false_iff_ne]; intro e; rw [e] at hl17; simp at hl17
  have g2 : (l == [112, 111, 105, 110, 116, 46, 110, 101, 119]) = false := by
    rw [beq_eq_false_iff_ne]; intro e; rw [e] at hl17; simp at hl17
  have g3 : ((l.length : Int) != 17) = false := by simp; omega
  have hi0 : ∀ wx, (Instr.index 9 (.string ⟨l.toArray⟩) (.int .i64 0)).run Try.prog wx = .ok (.int .u8 h.toNat) wx := by
    intro wx; have := run_index_str 9 Try.underlying9 l 0 (by omega) wx; simpa [hl, bv] using this
  have hsl : ∀ wx, (Instr.slice 9 (.string ⟨l.toArray⟩) (some (.int .i64 1)) none none).run Try.prog wx = .ok (.string ⟨r.toArray⟩) wx := by
    intro wx; have := run_slice_from 9 Try.underlying9 l 1 (by omega) wx; simpa [hl] using this
  obtain ⟨c, O, hcv, hc, hcell, _⟩ := run_bytes_of 9 50 5 Try.underlying9 Try.underlying50 Try.underlying5 r w
  rw [h3] at hcv
  have HCELL := Lib.hid hcell; clear hcell
  have HL := Lib.hid hl; clear hl
  have H17 := Lib.hid hl17; clear hl17
  have H3 := Lib.hid h3; clear h3
  have hC : (h = 115 ∧ ((h.toNat : Int) == 115) = true ∧ kindOf h = 2) ∨ (h = 106 ∧ (((h.toNat : Int) == 115) = false ∧ ((h.toNat : Int) == 106) = true) ∧ kindOf h = 1) ∨ ((h ≠ 115 ∧ h ≠ 106) ∧ (((h.toNat : Int) == 115) = false ∧ ((h.toNat : Int) == 106) = false) ∧ kindOf h = 0) := by
    by_cases e1 : h = 115
    · subst e1; exact .inl (by decide)
    · by_cases e2 : h = 106
      · subst e2; exact .inr (.inl (by decide))
      · have f1 : (h.toNat : Int) ≠ 115 := fun e => e1 (UInt8.toNat_inj.1 (by show h.toNat = 115; omega))
        have f2 : (h.toNat : Int) ≠ 106 := fun e => e2 (UInt8.toNat_inj.1 (by show h.toNat = 106; omega))
        exact .inr (.inr ⟨⟨e1, e2⟩, ⟨by simpa using f1, by simpa using f2⟩, by simp [kindOf, e1, e2]⟩)
  rcases hC with ⟨e1, b1, hk⟩ | ⟨e1, ⟨b1, b2⟩, hk⟩ | ⟨e1, ⟨b1, b2⟩, hk⟩
  rotate_left 2
  · have HK := Lib.hid hk; clear hk e1
    go_enter Try.func17, Try.ntmps17
    go_wp2
    go_ret2
    simp [numOf, HK.out]
    exact Below.refl _ _
  all_goals
    have HK := Lib.hid hk; clear hk e1
    go_enter Try.func17, Try.ntmps17
    go_wp2
    go_loop [5, 33] (fun n i => ∃ k acc : Nat, k ≤ 16 ∧ i = .int .i64 k ∧ n = .int .u64 acc ∧ Hid (digsFrom 0 (r.take k) = some acc) ∧ Hid (acc < 16 ^ k)) (fun _ i => 16 - (intOf i).toNat)
    case atStart => exact ⟨0, 0, by omega, rfl, rfl, rfl, by show 0 < 1; omega⟩
    case round =>
      obtain ⟨k, acc, hk, rfl, rfl, HD, HA⟩ := hrel
      by_cases hlt : k < 16
      · have hkr : k < r.length := by rw [H3.out]; exact hlt
        have hc := HCELL.out k hkr
        simp only [bv] at hc
        generalize hcc : r[k] = ch at hc
        have hts : r.take (k + 1) = r.take k ++ [ch] := by rw [← hcc]; exact List.take_succ_eq_append_getElem hkr
        have hsn := digsFrom_snoc ch (r.take k) 0
        rw [← hts, show digsFrom 0 (r.take k) = some acc from HD] at hsn
        have HC := Lib.hid hsn; clear hcc hts hsn
        have hcall := IndexByte_hex ch
        unfold didx at hcall
        cases hd : dval ch with
        | none =>
          simp only [hd] at hcall
          have HD0 := Lib.hid hd; clear hd
          go_wp2_with (go_at_call 27; refine (hcall _).mono ?_; rintro e w' ⟨rfl, rfl⟩)
          go_ret2
          have hnone := HC.out
          rw [HD0.out] at hnone
          simp [numOf, HK.out, digsFrom_none hnone]
          exact ((Below.refl _ _).alloc (Nat.le_refl _) _).drew
        | some d =>
          simp only [hd] at hcall
          have hd16 := dval_lt hd
          have HD0 := Lib.hid hd; clear hd
          have hacc : acc < 1152921504606846976 := Nat.lt_of_lt_of_le HA.out (Nat.pow_le_pow_right (n := 16) (by decide) (by omega : k ≤ 15))
          have hor : bits .or .u64 ((acc : Int) * 16) (d : Int) = ((acc * 16 + d : Nat) : Int) := by
            rw [← shl_or acc d hd16, show (acc : Int) * 16 = ((acc * 16 : Nat) : Int) from by omega]
            exact bits_or_u64_nat _ _ (by omega) (by omega)
          go_wp2_with (go_at_call 27; refine (hcall _).mono ?_; rintro e w' ⟨rfl, rfl⟩)
          go_round
          case rel =>
            refine ⟨k + 1, acc * 16 + d, by omega, by go_num, by go_num, ?_, ?_⟩
            · have hs := HC.out; rw [HD0.out] at hs; exact hs
            · have h16 : acc < 16 ^ k := HA
              show acc * 16 + d < 16 ^ (k + 1)
              rw [Nat.pow_succ]; omega
          case measure => simp [intOf]; omega
      · obtain rfl : k = 16 := by omega
        have hn : digsFrom 0 r = some acc := by have := HD.out; rwa [List.take_of_length_le (by rw [H3.out]; omega)] at this
        have HN := Lib.hid hn; clear hn
        by_cases hbig : acc < 9223372036854775808
        · have hb1 : ((acc : Int) / 9223372036854775808 != 0) = false := by
            rw [bne_eq_false_iff_eq]; omega
          go_wp2
          go_ret2
          simp [numOf, HK.out, HN.out, hbig]
          exact ((Below.refl _ _).alloc (Nat.le_refl _) _).drew
        · have hb1 : ((acc : Int) / 9223372036854775808 != 0) = true := by
            rw [bne_iff_ne]; omega
          go_wp2
          go_ret2
          simp [numOf, HK.out, HN.out, hbig]
          exact ((Below.refl _ _).alloc (Nat.le_refl _) _).drew

theorem Parse_any (l : List UInt8) (w : World) : Calls Try.prog 17 #[.string ⟨l.toArray⟩] w fun e w' => e = .returned (.tuple #[.int .i64 (parse l).1, .int .i64 (parse l).2]) ∧ Below w.heap.size w w' := by
  unfold parse
  by_cases h1 : l = pointL
  · rw [if_pos h1, h1]; exact (Parse_point w).mono fun e w' ⟨a, b⟩ => ⟨a, b ▸ Below.refl _ _⟩
  · rw [if_neg h1]
    by_cases h2 : l = otherL
    · rw [if_pos h2, h2]; exact (Parse_other w).mono fun e w' ⟨a, b⟩ => ⟨a, b ▸ Below.refl _ _⟩
    · rw [if_neg h2]
      by_cases h3 : l.length = 17
      · rw [if_neg (by simpa using h3)]
        match l, h3 with
        | h :: r, h3 => exact Parse_17 (h :: r) h r w rfl (by simpa using h3)
      · rw [if_pos h3]; exact (Parse_long l w h1 h2 h3).mono fun e w' ⟨a, b⟩ => ⟨a, b ▸ Below.refl _ _⟩

end Go.Proofs.Ytfoaoofaldiajaa
