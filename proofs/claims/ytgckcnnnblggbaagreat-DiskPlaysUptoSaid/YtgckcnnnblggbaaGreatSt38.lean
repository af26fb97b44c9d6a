/- Texts of this claim, one behind the other: RdW. -/
import Derived.Test.YtgckcnnnblggbaaGreatSt37
set_option linter.unusedSimpArgs false
set_option linter.unusedVariables false
/- lent, left, over: bytes that are handed in. -/
namespace Go.Proofs.YtgckcnnnblggbaaGreat
open Go.RowKit Go.Maps

/-- a row of the law's own: bytes l, and m behind them, in block g -/
def Lent (w : World) (lo g c : Nat) (l : List UInt8) : Prop := w.ownsRow lo 5 1 (.slice (some ⟨g, 0, none⟩) (l.length + 1) c) (l.length + 1) ((l ++ [165]).map bv)
theorem Lent.rowAt {w : World} {lo g c : Nat} {l : List UInt8} (h : Lent w lo g c l) : RowAt w (some ⟨g, 0, none⟩) (l.map bv) := by
  obtain ⟨a, c', e, hr, _⟩ := RowAt.of_owns h
  cases e
  have := hr.take l.length
  rwa [← List.map_take, List.take_left' rfl] at this

set_option maxRecDepth 100000 in
set_option maxHeartbeats 1000000 in
theorem lent_any {w : World} {a : Option Addr} {c : Nat} {l : List UInt8} (hrow : RowAt w a (l.map bv)) (hnil : a = none → c = 0) (hl : l.length ≤ 70368744177664) :
    Calls Tryz.prog 36 #[.slice a l.length c] w fun e w' => ∃ g c', e = .returned (.slice (some ⟨g, 0, none⟩) l.length c') ∧ Lent w' w.heap.size g c' l ∧ Below w.heap.size w w' := by
  have hmax : maxLen = 9223372036854775807 := rfl
  obtain ⟨i0, hi, hz0, hz1, hz2⟩ := info_parts Tryz.info5
  go_enter Tryz.func36, Tryz.ntmps36
  go_wp2_with (first | (at_builtin; refine wpList_append_any _ rfl (.const (.slice none 0 0)) (.tmp 4) 36 rfl w.heap.size 5 i0 (.int .u8 0) 1 Tryz.underlying36 hi hz0 hz1 hz2 rfl (.slice none 0 0) 0 [] rfl (World.ownsRow_nil _ _ _ _) a l.length c (l.map bv) rfl (by simp) hnil hrow (one_bv l) (by omega) (by omega) (Nat.le_refl _) ?_; intro v1 w1 hv1 hg1; rw [Nat.zero_add, List.nil_append] at hv1; have hb1 : Below w.heap.size w w1 := (Below.refl _ _).grown hg1 (Nat.le_refl _) (by intro k hk; cases hk); have hz1' := hb1.size) | (at_builtin; refine wpList_append_any _ rfl (.tmp 5) (.tmp 6) 36 rfl w.heap.size 5 i0 (.int .u8 0) 1 Tryz.underlying36 hi hz0 hz1 hz2 rfl _ l.length _ rfl (World.ownsRow.alloc hv1 _) (some ⟨w1.heap.size, 0, none⟩) 1 1 [.int .u8 165] rfl rfl (fun h => by cases h) (RowAt.of_row (fun j u hu => cell_new w1 _ _ j u (by simpa using hu))) (by simp [Value.oneCell']) (by omega) (by omega) (by rw [World.size_alloc]; omega) ?_; intro v2 w2 hv2 hg2; have hb2 : Below w.heap.size w w2 := (hb1.alloc hz1' _).grown hg2 (by rw [World.size_alloc]; omega) (fun k e => (hv1.lt k e).1); obtain ⟨a2, c2, rfl, hc2, _, hat2⟩ := ownsRow_cell hv2; obtain ⟨g2, rfl, _⟩ := hat2 l.length (.int .u8 165) (by rw [List.getElem?_append_right (by simp)]; simp); have hsl := run_slice_hi (P := Tryz.prog) 36 5 Tryz.underlying36 Tryz.sizeOf5 (some ⟨g2, 0, none⟩) (l.length + 1) c2 l.length (by omega)))
  go_ret
  exact ⟨_, _, rfl, by unfold Lent; rw [List.map_append]; exact hv2, hb2⟩

set_option maxRecDepth 100000 in
set_option maxHeartbeats 1000000 in
theorem left_any {w : World} {lo g c d : Nat} {b : Option Addr} {l : List UInt8} (h : Lent w lo g c l) (hrow : RowAt w b (l.map bv)) (hl : l.length ≤ 70368744177664) :
    Calls Tryz.prog 39 #[.slice (some ⟨g, 0, none⟩) l.length c, .slice b l.length d] w fun e w' => e = .returned (.bool true) ∧ w = w' := by
  have hS := Same_any (c := c) (d := d) h.rowAt hrow
  have hcap : l.length + 1 ≤ c := by
    obtain ⟨a', c', e, hc, _⟩ := ownsRow_cell h
    cases e; exact hc
  have hcell : w.cell? ⟨g, l.length, none⟩ = some (.int .u8 165) := by
    obtain ⟨a', c', e, _, _, hat⟩ := ownsRow_cell h
    cases e
    obtain ⟨g', e', hc⟩ := hat l.length (.int .u8 165) (by rw [List.map_append, List.getElem?_append_right (by simp)]; simp [bv])
    cases e'; exact hc
  rw [show (l == l) = true by simp] at hS
  have hsl := run_slice_hi (P := Tryz.prog) 36 5 Tryz.underlying36 Tryz.sizeOf5 (some ⟨g, 0, none⟩) l.length c (l.length + 1) hcap
  have e1 : IntKind.i64.wrap ((l.length : Int) + 1) = ((l.length + 1 : Nat) : Int) := (Go.IntWalk.i64_in _ (by omega)).trans (by omega)
  have j0 : (0 : Int) ≤ (l.length : Int) := by omega
  have j1 : (l.length : Int) < ((l.length + 1 : Nat) : Int) := by omega
  go_enter Tryz.func39, Tryz.ntmps39
  go_wp2_with (go_at_call 53; refine hS.mono ?_; rintro _ w1 ⟨rfl, rfl⟩)
  go_ret
  exact ⟨rfl, rfl⟩

set_option maxRecDepth 100000 in
set_option maxHeartbeats 1000000 in
theorem over_full {w : World} {lo g c n m : Nat} {xs : List Value} (h : w.ownsRow lo 5 1 (.slice (some ⟨g, 0, none⟩) m c) m xs) (hn : n ≤ m) (hm : m ≤ 140737488355328) :
    Calls Tryz.prog 40 #[.slice (some ⟨g, 0, none⟩) n c] w fun e w' => e = .returned (.tuple #[]) ∧ Chg (· = g) w w' ∧ ∃ ys, w'.ownsRow lo 5 1 (.slice (some ⟨g, 0, none⟩) m c) m ys := by
  go_enter Tryz.func40, Tryz.ntmps40
  go_wp2
  go_loopw [2] (fun i wr => ∃ k : Nat, k ≤ n ∧ i = .int .i64 k ∧ Chg (· = g) w wr ∧ ∃ ys, wr.ownsRow lo 5 1 (.slice (some ⟨g, 0, none⟩) m c) m ys) (fun i _ => n - (RowKit.intOf i).toNat)
  case atStart => exact ⟨0, by omega, rfl, Chg.refl _ _, xs, h⟩
  case round =>
    obtain ⟨k, hk, rfl, hc, ys, hr⟩ := hrel
    by_cases hlt : k < n
    · obtain ⟨⟨u0, q0⟩, f0, hset⟩ := ownsRow_set hr (g := g) rfl k (by omega) (.int .u8 99)
      have hc2 : Chg (· = g) wr (wr.setCell ⟨g, k, none⟩ (.int .u8 99)) := Chg.set _ rfl
      have hc3 := hc.trans hc2 (fun _ h _ => h)
      have j0 : (0 : Int) ≤ (k : Int) := by omega
      have j1 : (k : Int) < (n : Int) := by omega
      have HS := Lib.hid (And.intro hset hc3)
      clear hset hc2 hc3
      go_wp2
      go_roundw
      case rel => exact ⟨k + 1, by omega, by go_num, HS.out.2, _, HS.out.1⟩
      case measure => simp [RowKit.intOf]; omega
    · obtain rfl : k = n := by omega
      have j1 : ¬ (k : Int) < (k : Int) := by omega
      go_wp2
      exact bodyPost_end (results_none rfl _ _ _) rfl ⟨rfl, hc, ys, hr⟩
theorem over_any {w : World} {lo g c n m : Nat} {xs : List Value} (h : w.ownsRow lo 5 1 (.slice (some ⟨g, 0, none⟩) m c) m xs) (hn : n ≤ m) (hm : m ≤ 140737488355328) :
    Calls Tryz.prog 40 #[.slice (some ⟨g, 0, none⟩) n c] w fun e w' => e = .returned (.tuple #[]) ∧ Chg (· = g) w w' := (over_full h hn hm).mono fun e w' ⟨k1, k2, _⟩ => ⟨k1, k2⟩

end Go.Proofs.YtgckcnnnblggbaaGreat
