/- The plain law of names: the number that a name bears, by the program's reading and by the reference's. No program in sight. -/
import Derived.Test.YtfoaoofaldiajaaNm3
namespace Go.Proofs.Ytfoaoofaldiajaa

def dz (c : UInt8) : Nat := (dval c).getD 0
def valOf (l : List UInt8) : Nat := l.foldl (fun a c => a * 16 + dz c) 0
theorem dz_lt (c : UInt8) : dz c < 16 := by
  unfold dz; cases h : dval c with
  | none => simp
  | some d => exact dval_lt h
theorem valOf_snoc (l : List UInt8) (c : UInt8) : valOf (l ++ [c]) = valOf l * 16 + dz c := by simp [valOf, List.foldl_append]
theorem foldl_digs : ∀ (l : List UInt8) (a n : Nat), digsFrom a l = some n → l.foldl (fun a c => a * 16 + dz c) a = n
  | [], a, n, h => by simpa [digsFrom] using h
  | c :: l, a, n, h => by
    unfold digsFrom at h
    cases hd : dval c with
    | none => rw [hd] at h; cases h
    | some d => rw [hd] at h; simp only [List.foldl_cons, dz, hd, Option.getD_some]; exact foldl_digs l _ n h
theorem valOf_digs {l : List UInt8} {n : Nat} (h : digsFrom 0 l = some n) : valOf l = n := foldl_digs l 0 n h
theorem valOf_lt : ∀ (l : List UInt8), valOf l < 16 ^ l.length := by
  intro l
  have : ∀ (l : List UInt8) (a b : Nat), a < b → l.foldl (fun a c => a * 16 + dz c) a < b * 16 ^ l.length := by
    intro l
    induction l with
    | nil => intro a b h; simpa using h
    | cons c l ih =>
      intro a b h
      have hd := dz_lt c
      have := ih (a * 16 + dz c) (b * 16) (by omega)
      rw [List.foldl_cons, List.length_cons, Nat.pow_succ, Nat.mul_comm (16 ^ l.length) 16, ← Nat.mul_assoc]; exact this
  have h := this l 0 1 (by omega)
  simpa [valOf] using h

/-- the digits of a number, the highest first -/
def digs (n : Nat) : Nat → List UInt8
  | 0 => []
  | k + 1 => digs (n / 16) k ++ [hexB (n % 16)]
theorem digs_len : ∀ (k n : Nat), (digs n k).length = k
  | 0, _ => rfl
  | k + 1, n => by simp [digs, digs_len k]
theorem digsFrom_digs : ∀ (k n a : Nat), digsFrom a (digs n k) = some (a * 16 ^ k + n % 16 ^ k)
  | 0, n, a => by simp [digs, digsFrom, Nat.mod_one]
  | k + 1, n, a => by
    rw [digs, digsFrom_snoc, digsFrom_digs k, dval_hexB (Nat.mod_lt _ (by decide))]
    have h := Nat.mod_mul (a := 16) (b := 16 ^ k) (x := n)
    have e : a * 16 ^ (k + 1) = a * 16 ^ k * 16 := by rw [Nat.pow_succ, Nat.mul_assoc]
    simp only [Option.bind_some, Option.map_some, Option.some.injEq]
    rw [e, Nat.pow_succ, Nat.mul_comm (16 ^ k) 16, h]
    omega
theorem digs_range : ∀ (k n : Nat), digs n k = (List.range k).map (fun j => hexB (n / 16 ^ (k - 1 - j) % 16))
  | 0, _ => rfl
  | k + 1, n => by
    rw [digs, digs_range k, List.range_succ, List.map_append]
    congr 1
    · apply List.map_congr_left
      intro j hj
      have hj' : j < k := by simpa using hj
      rw [Nat.div_div_eq_div_mul, show k + 1 - 1 - j = (k - 1 - j) + 1 from by omega, Nat.pow_succ, Nat.mul_comm 16]
    · simp
theorem nameL_digs (h : UInt8) (n : Nat) : nameL h n 16 = h :: digs n 16 := by
  rw [nameL, digs_range]
  congr 1
theorem digsFrom_inj : ∀ (l m : List UInt8) (a b n : Nat), l.length = m.length → digsFrom a l = some n → digsFrom b m = some n → a = b ∧ l = m
  | [], m, a, b, n, hl, h1, h2 => by
    obtain rfl : m = [] := by cases m <;> simp_all
    simp [digsFrom] at h1 h2; exact ⟨by omega, rfl⟩
  | c :: l, [], a, b, n, hl, h1, h2 => by simp at hl
  | c :: l, d :: m, a, b, n, hl, h1, h2 => by
    unfold digsFrom at h1 h2
    cases f1 : dval c with
    | none => rw [f1] at h1; cases h1
    | some u =>
      cases f2 : dval d with
      | none => rw [f2] at h2; cases h2
      | some v =>
        rw [f1] at h1; rw [f2] at h2
        have hu := dval_lt f1; have hv := dval_lt f2
        obtain ⟨e, rfl⟩ := digsFrom_inj l m _ _ n (by simpa using hl) h1 h2
        have huv : u = v := by omega
        subst huv
        exact ⟨by omega, by rw [← hexB_dval f1, ← hexB_dval f2]⟩

/-- what the reference reads -/
def refNum (h : UInt8) (r : List UInt8) : Nat × Nat :=
  if 9223372036854775808 ≤ valOf r then (0, 0) else if nameL 106 (valOf r) 16 = h :: r then (1, valOf r) else if nameL 115 (valOf r) 16 = h :: r then (2, valOf r) else (0, 0)

theorem refNum_eq (h : UInt8) (r : List UInt8) (hr : r.length = 16) : refNum h r = numOf h r := by
  unfold refNum numOf
  cases hd : digsFrom 0 r with
  | none =>
    have hne : ∀ x, nameL x (valOf r) 16 ≠ h :: r := by
      intro x e
      rw [nameL_digs] at e
      have e2 : digs (valOf r) 16 = r := (List.cons.inj e).2
      have := digsFrom_digs 16 (valOf r) 0
      rw [e2, hd] at this; cases this
    rw [if_neg (hne 106), if_neg (hne 115)]
    simp
  | some n =>
    have hv := valOf_digs hd
    have hlt := valOf_lt r
    rw [hv, hr] at hlt
    have hdg : digs n 16 = r := by
      have h2 := digsFrom_digs 16 n 0
      rw [Nat.mod_eq_of_lt hlt, Nat.zero_mul, Nat.zero_add] at h2
      exact (digsFrom_inj _ _ 0 0 n (by rw [digs_len, hr]) h2 hd).2
    rw [hv, nameL_digs, nameL_digs, hdg]
    by_cases hbig : n < 9223372036854775808
    · rw [if_neg (by omega)]
      unfold kindOf
      by_cases e1 : h = 115
      · subst e1; simp [hbig]
      · by_cases e2 : h = 106
        · subst e2; simp [hbig]
        · have f1 : ¬ ((106 : UInt8) :: r = h :: r) := fun e => e2 (List.cons.inj e).1.symm
          have f2 : ¬ ((115 : UInt8) :: r = h :: r) := fun e => e1 (List.cons.inj e).1.symm
          simp [f1, f2, e1, e2, Ne.symm e1, Ne.symm e2]
    · rw [if_pos (by omega)]
      simp [hbig]

end Go.Proofs.Ytfoaoofaldiajaa
