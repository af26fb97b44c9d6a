/- The plain law of names: what a name is of, as lists of bytes. No program in sight. -/
import Derived.Test.YtfoaoofaldiajaaNm1
namespace Go.Proofs.Ytfoaoofaldiajaa

def dval (c : UInt8) : Option Nat := if 48 ≤ c ∧ c ≤ 57 then some (c.toNat - 48) else if 97 ≤ c ∧ c ≤ 102 then some (c.toNat - 87) else none
/-- the index of a byte in the sixteen digits -/
def didx (c : UInt8) : Int := match dval c with | some d => d | none => -1
def digsFrom (acc : Nat) : List UInt8 → Option Nat
  | [] => some acc
  | c :: r => match dval c with | none => none | some d => digsFrom (acc * 16 + d) r

def pointL : List UInt8 := [112, 111, 105, 110, 116]
def otherL : List UInt8 := [112, 111, 105, 110, 116, 46, 110, 101, 119]
def kindOf (h : UInt8) : Nat := if h = 115 then 2 else if h = 106 then 1 else 0
def numOf (h : UInt8) (r : List UInt8) : Nat × Nat :=
  if kindOf h = 0 then (0, 0) else match digsFrom 0 r with | some n => if n < 9223372036854775808 then (kindOf h, n) else (0, 0) | none => (0, 0)
/-- WHAT A NAME IS OF, AND ITS NUMBER. -/
def parse (l : List UInt8) : Nat × Nat :=
  if l = pointL then (3, 0) else if l = otherL then (4, 0) else if l.length ≠ 17 then (0, 0) else
  match l with | h :: r => numOf h r | [] => (0, 0)

theorem dval_lt {c : UInt8} {d : Nat} (h : dval c = some d) : d < 16 := by
  unfold dval at h
  split at h
  · rename_i hc; simp only [UInt8.le_iff_toNat_le] at hc; simp at h hc; omega
  · split at h
    · rename_i hc; simp only [UInt8.le_iff_toNat_le] at hc; simp at h hc; omega
    · cases h
theorem hexB_toNat {d : Nat} (h : d < 16) : (hexB d).toNat = if d < 10 then 48 + d else 87 + d := by
  unfold hexB; split <;> simp <;> omega
theorem dval_hexB {d : Nat} (h : d < 16) : dval (hexB d) = some d := by
  rcases lt16 h with h | h | h | h | h | h | h | h | h | h | h | h | h | h | h | h <;> subst h <;> decide
theorem hexB_dval {c : UInt8} {d : Nat} (h : dval c = some d) : hexB d = c := by
  have hd := dval_lt h
  apply UInt8.toNat_inj.1
  rw [hexB_toNat hd]
  unfold dval at h
  split at h
  · rename_i hc; simp only [UInt8.le_iff_toNat_le] at hc; simp at h hc; rw [if_pos (by omega)]; omega
  · split at h
    · rename_i hc; simp only [UInt8.le_iff_toNat_le] at hc; simp at h hc; rw [if_neg (by omega)]; omega
    · cases h

theorem digsFrom_snoc (c : UInt8) : ∀ (l : List UInt8) (acc : Nat), digsFrom acc (l ++ [c]) = (digsFrom acc l).bind fun n => (dval c).map fun d => n * 16 + d
  | [], acc => by simp [digsFrom]; cases dval c <;> rfl
  | x :: l, acc => by
    simp only [List.cons_append, digsFrom]
    cases dval x with
    | none => rfl
    | some d => exact digsFrom_snoc c l _
theorem digsFrom_none {l : List UInt8} : ∀ {k : Nat} {acc : Nat}, digsFrom acc (l.take k) = none → digsFrom acc l = none := by
  induction l with
  | nil => intro k acc h; simpa using h
  | cons x l ih =>
    intro k acc h
    cases k with
    | zero => simp [digsFrom] at h
    | succ k =>
      simp only [List.take_succ_cons, digsFrom] at h ⊢
      cases hd : dval x with
      | none => rfl
      | some d => rw [hd] at h; exact ih h
theorem shl_or (a d : Nat) (hd : d < 16) : a * 16 ||| d = a * 16 + d := by
  have h := Nat.shiftLeft_add_eq_or_of_lt (i := 4) (b := d) (by omega) a
  rw [Nat.shiftLeft_eq, show 2 ^ 4 = 16 from rfl] at h
  exact h.symm

end Go.Proofs.Ytfoaoofaldiajaa
