/- The plain law of NamesRise: names rise as their numbers do; a name with one byte otherwise. No program in sight. -/
import Derived.Test.YtfoaoofaldiajaaNmK
namespace Go.Proofs.Ytfoaoofaldiajaa

theorem digsFrom_bounds : ∀ (l : List UInt8) (a n : Nat), digsFrom a l = some n → a * 16 ^ l.length ≤ n ∧ n < (a + 1) * 16 ^ l.length
  | [], a, n, h => by simp [digsFrom] at h; subst h; simp
  | c :: l, a, n, h => by
    unfold digsFrom at h
    cases hd : dval c with
    | none => rw [hd] at h; cases h
    | some d =>
      rw [hd] at h
      have h16 := dval_lt hd
      obtain ⟨h1, h2⟩ := digsFrom_bounds l _ n h
      rw [List.length_cons, Nat.pow_succ]
      have e1 : a * (16 ^ l.length * 16) ≤ (a * 16 + d) * 16 ^ l.length := by
        rw [Nat.mul_comm (16 ^ l.length) 16, ← Nat.mul_assoc]; exact Nat.mul_le_mul_right _ (by omega)
      have e2 : (a * 16 + d + 1) * 16 ^ l.length ≤ (a + 1) * (16 ^ l.length * 16) := by
        rw [Nat.mul_comm (16 ^ l.length) 16, ← Nat.mul_assoc]; exact Nat.mul_le_mul_right _ (by omega)
      omega
theorem hexB_lt {u v : Nat} (hu : u < 16) (hv : v < 16) : hexB u < hexB v ↔ u < v := by
  rw [UInt8.lt_iff_toNat_lt, hexB_toNat hu, hexB_toNat hv]
  split <;> split <;> omega
theorem less_digs : ∀ (l m : List UInt8) (a x y : Nat), l.length = m.length → digsFrom a l = some x → digsFrom a m = some y → Op.bytesLess l m = decide (x < y)
  | [], [], a, x, y, _, h1, h2 => by simp [digsFrom] at h1 h2; subst h1; subst h2; simp [Op.bytesLess]
  | [], _ :: _, _, _, _, hl, _, _ => by simp at hl
  | _ :: _, [], _, _, _, hl, _, _ => by simp at hl
  | c :: l, d :: m, a, x, y, hl, h1, h2 => by
    unfold digsFrom at h1 h2
    cases f1 : dval c with
    | none => rw [f1] at h1; cases h1
    | some u =>
      cases f2 : dval d with
      | none => rw [f2] at h2; cases h2
      | some v =>
        rw [f1] at h1; rw [f2] at h2
        have hu := dval_lt f1; have hv := dval_lt f2
        obtain ⟨a1, a2⟩ := digsFrom_bounds _ _ _ h1
        obtain ⟨b1, b2⟩ := digsFrom_bounds _ _ _ h2
        have hlen : l.length = m.length := by simpa using hl
        rw [hlen] at a1 a2
        rw [← hexB_dval f1, ← hexB_dval f2]
        unfold Op.bytesLess
        by_cases h : u < v
        · have hlt : hexB u < hexB v := (hexB_lt hu hv).2 h
          have : (a * 16 + u + 1) * 16 ^ m.length ≤ (a * 16 + v) * 16 ^ m.length := Nat.mul_le_mul_right _ (by omega)
          simp only [hlt, decide_true, Bool.true_or]
          symm; simp; omega
        · have hlt : ¬ hexB u < hexB v := fun e => h ((hexB_lt hu hv).1 e)
          by_cases he : u = v
          · subst he
            rw [less_digs l m _ x y hlen h1 h2]
            simp
          · have hne : (hexB u == hexB v) = false := by
              rw [beq_eq_false_iff_ne]; intro e
              have := dval_hexB hu; rw [e, dval_hexB hv] at this; simp at this; omega
            have : (a * 16 + v + 1) * 16 ^ m.length ≤ (a * 16 + u) * 16 ^ m.length := Nat.mul_le_mul_right _ (by omega)
            simp only [hlt, hne, decide_false, Bool.false_or, Bool.false_and]
            symm; simp; omega

theorem digs_of {n : Nat} (h : n < 9223372036854775808) : digsFrom 0 (digs n 16) = some n := by
  have := digsFrom_digs 16 n 0
  rwa [Nat.zero_mul, Nat.zero_add, Nat.mod_eq_of_lt (by omega)] at this
theorem parse_name (h : UInt8) (n : Nat) (hn : n < 9223372036854775808) (hh : kindOf h ≠ 0) : parse (nameL h n 16) = (kindOf h, n) := by
  have hl := nameL_len h n 16
  unfold parse
  rw [if_neg (by intro e; rw [e] at hl; simp [pointL] at hl), if_neg (by intro e; rw [e] at hl; simp [otherL] at hl), if_neg (by simp [hl])]
  rw [nameL_digs]
  simp only [numOf, hh, if_false, digs_of hn, hn, if_true]
theorem parse_j (n : Nat) (hn : n < 9223372036854775808) : parse (nameL 106 n 16) = (1, n) := parse_name 106 n hn (by decide)
theorem parse_s (n : Nat) (hn : n < 9223372036854775808) : parse (nameL 115 n 16) = (2, n) := parse_name 115 n hn (by decide)
theorem less_name (h : UInt8) (a b : Nat) (ha : a < 9223372036854775808) (hb : b < 9223372036854775808) : Op.bytesLess (nameL h a 16) (nameL h b 16) = decide (a < b) := by
  rw [nameL_digs, nameL_digs, Op.bytesLess, less_digs (digs a 16) (digs b 16) 0 a b (by rw [digs_len, digs_len]) (digs_of ha) (digs_of hb)]
  simp
theorem name_inj (h : UInt8) {a b : Nat} (ha : a < 9223372036854775808) (hb : b < 9223372036854775808) (e : nameL h a 16 = nameL h b 16) : a = b := by
  rw [nameL_digs, nameL_digs] at e
  have h1 := digs_of ha
  rw [(List.cons.inj e).2, digs_of hb] at h1
  simpa using h1.symm
theorem compare_jj (a b : Nat) (ha : a < 9223372036854775808) (hb : b < 9223372036854775808) : compareL (nameL 106 a 16) (nameL 106 b 16) = cmpI a b := by
  rw [compareL_spec, parse_j a ha, parse_j b hb, less_name 106 a b ha hb]
  have := @name_inj 106 a b ha hb
  unfold cmpI
  by_cases h1 : a < b
  · simp [h1]
  · by_cases h2 : b < a
    · have : ¬ nameL 106 a 16 = nameL 106 b 16 := fun e => by have := this e; omega
      have h3 : ¬ a = b := by omega
      simp [h1, h2, h3, this]
    · obtain rfl : a = b := by omega
      simp
theorem compare_ss (a b : Nat) (ha : a < 9223372036854775808) (hb : b < 9223372036854775808) : compareL (nameL 115 a 16) (nameL 115 b 16) = cmpI a b := by
  rw [compareL_spec, parse_s a ha, parse_s b hb, less_name 115 a b ha hb]
  have := @name_inj 115 a b ha hb
  unfold cmpI
  by_cases h1 : a < b
  · simp [h1]
  · by_cases h2 : b < a
    · have : ¬ nameL 115 a 16 = nameL 115 b 16 := fun e => by have := this e; omega
      have h3 : ¬ a = b := by omega
      simp [h1, h2, h3, this]
    · obtain rfl : a = b := by omega
      simp
theorem compare_js (a b : Nat) (ha : a < 9223372036854775808) (hb : b < 9223372036854775808) : compareL (nameL 106 a 16) (nameL 115 b 16) = -1 := by
  rw [compareL_spec, parse_j a ha, parse_s b hb]
  simp [rrankK]

theorem set_ne (l : List UInt8) (i : Nat) (c : UInt8) (hi : i < l.length) (h : l[i] ≠ c) : l.set i c ≠ l := by
  intro h2
  have h4 : (l.set i c)[i]? = l[i]? := by rw [h2]
  rw [List.getElem?_set_self hi, List.getElem?_eq_getElem hi] at h4
  exact h (Option.some.inj h4).symm
/-- ONE BYTE OTHERWISE -/
theorem parse_set (a : Nat) (ha : a < 9223372036854775808) (i : Nat) (hi : i < 17) (c : UInt8) (hc : (nameL 106 a 16)[i]'(by rw [nameL_len]; omega) ≠ c) :
    (parse ((nameL 106 a 16).set i c) = (0, 0)) ∨ (parse ((nameL 106 a 16).set i c) = (2, a)) ∨ (∃ n, parse ((nameL 106 a 16).set i c) = (1, n) ∧ n ≠ a) := by
  have hl := nameL_len 106 a 16
  have hset : ((nameL 106 a 16).set i c).length = 17 := by simp [hl]
  unfold parse
  rw [if_neg (by intro e; rw [e] at hset; simp [pointL] at hset), if_neg (by intro e; rw [e] at hset; simp [otherL] at hset), if_neg (by simp [hset])]
  cases i with
  | zero =>
    simp only [nameL_digs, List.set_cons_zero]
    have hc' : (106 : UInt8) ≠ c := by simpa [nameL] using hc
    unfold numOf kindOf
    by_cases h1 : c = 115
    · subst h1; simp [digs_of ha, ha]
    · simp [h1, Ne.symm hc']
  | succ i =>
    simp only [nameL_digs, List.set_cons_succ]
    have hdl := digs_len 16 a
    have hc' : (digs a 16)[i]'(by omega) ≠ c := by
      intro e; apply hc; simp only [nameL_digs, List.getElem_cons_succ]; exact e
    unfold numOf
    rw [if_neg (by decide)]
    cases hd : digsFrom 0 ((digs a 16).set i c) with
    | none => simp
    | some n =>
      have hne : n ≠ a := by
        intro e; subst e
        have h2 := (digsFrom_inj _ _ 0 0 n (by simp) hd (digs_of ha)).2
        exact set_ne _ i c (by omega) hc' h2
      simp only []
      split
      · right; right; exact ⟨n, rfl, hne⟩
      · left; rfl

end Go.Proofs.Ytfoaoofaldiajaa
