/- Walks of the names layer: the reference's order of names. -/
import Derived.Test.YtfoaoofaldiajaaNm5
namespace Go.Proofs.Ytfoaoofaldiajaa
open Go.RowKit

def rrankK (k : Nat) : Nat := if k = 0 then 9 else k
theorem rrank_any (k : Nat) (w : World) : Calls Try.prog 34 #[.int .i64 k] w fun e w' => e = .returned (.int .i64 (rrankK k)) ∧ w = w' := by
  unfold rrankK
  by_cases h : k = 0
  · subst h
    go_enter Try.func34, Try.ntmps34
    go_wp2
    go_ret
    exact ⟨rfl, rfl⟩
  · have hb : ((k : Int) == 0) = false := by simpa using h
    rw [if_neg h]; clear h
    go_enter Try.func34, Try.ntmps34
    go_wp2
    go_ret
    exact ⟨rfl, rfl⟩

theorem compareBytes_eq : ∀ (a b : List UInt8), Lib.compareBytes a b = if Op.bytesLess a b = true then -1 else if a = b then 0 else 1
  | [], [] => by simp [Lib.compareBytes, Op.bytesLess]
  | [], _ :: _ => by simp [Lib.compareBytes, Op.bytesLess]
  | _ :: _, [] => by simp [Lib.compareBytes, Op.bytesLess]
  | a :: xs, b :: ys => by
    have ih := compareBytes_eq xs ys
    simp only [Lib.compareBytes, Op.bytesLess]
    by_cases h1 : a < b
    · simp [h1]
    · by_cases h2 : b < a
      · have h3 : a ≠ b := fun e => by subst e; exact h1 h2
        simp [h1, h2, h3]
      · have h3 : a = b := UInt8.le_antisymm (UInt8.not_lt.1 h2) (UInt8.not_lt.1 h1)
        subst h3
        simp [ih]

theorem numOf_kind (h : UInt8) (r : List UInt8) : (numOf h r).1 ≤ 2 := by
  have hk : kindOf h ≤ 2 := by unfold kindOf; split <;> (try split) <;> omega
  unfold numOf
  split
  · simp
  · split
    · split <;> simp [hk]
    · simp
theorem parse_kind (l : List UInt8) : (parse l).1 ≤ 4 := by
  unfold parse
  split
  · simp
  · split
    · simp
    · split
      · simp
      · split
        · have := numOf_kind (by assumption) (by assumption); omega
        · simp

theorem compareL_spec (a b : List UInt8) : compareL a b = if rrankK (parse a).1 < rrankK (parse b).1 ∨ ((parse a).1 = (parse b).1 ∧ (parse a).2 < (parse b).2) ∨ ((parse a).1 = (parse b).1 ∧ (parse a).2 = (parse b).2 ∧ Op.bytesLess a b = true) then -1 else if a = b then 0 else 1 := by
  unfold compareL
  rw [compareBytes_eq]
  have hp := parse_kind a
  have hq := parse_kind b
  have he : a = b → parse a = parse b := fun e => by rw [e]
  generalize parse a = p at *
  generalize parse b = q at *
  obtain ⟨k, n⟩ := p
  obtain ⟨l, m⟩ := q
  simp only [Prod.mk.injEq] at he hp hq ⊢
  unfold or3 cmpI rankK rrankK
  grind

set_option maxHeartbeats 400000 in
theorem rCompare_any (a b : List UInt8) (w : World) : Calls Try.prog 21 #[.string ⟨a.toArray⟩, .string ⟨b.toArray⟩] w fun e w' => e = .returned (.int .i64 (compareL a b)) ∧ Below w.heap.size w w' := by
  generalize hk : parse a = p
  generalize hl : parse b = q
  have p1 := rParse_any a
  have p2 := rParse_any b
  rw [hk] at p1
  rw [hl] at p2
  have HK := Lib.hid hk; clear hk
  have HL := Lib.hid hl; clear hl
  go_enter Try.func21, Try.ntmps21
  go_wp2_with fail
  refine (p1 _).mono ?_
  rintro e w1 ⟨rfl, hb1⟩
  clear p1
  go_wp2_with fail
  refine (p2 _).mono ?_
  rintro e w2 ⟨rfl, hb2⟩
  clear p2
  have h1 := hb1.size
  have h2 := hb2.size
  go_wp2_with (first | (go_at_call 34; refine (rrank_any _ _).mono ?_; rintro e w' ⟨rfl, rfl⟩))
  all_goals
    go_ret
    refine ⟨ret_int ?_, hb1.trans (hb2.mono h1)⟩
    rw [compareL_spec, HK.out, HL.out]
    grind

end Go.Proofs.Ytfoaoofaldiajaa
