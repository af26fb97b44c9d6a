/- Texts of this claim, one behind the other: IbA. -/
import Derived.Test.YtljobojdcnhecaaFm09
set_option linter.unusedSimpArgs false
set_option linter.unusedVariables false
namespace Go.Proofs.Ytljobojdcnhecaa
/- Find: the order of an index, and what is told of it: the plain law. -/
open Go.RowKit Go.Maps

/-! ### which of two texts stands ahead -/
theorem cmpB_anti : ∀ x y : List UInt8, cmpB y x = - cmpB x y
  | [], [] => rfl
  | [], _ :: _ => rfl
  | _ :: _, [] => rfl
  | a :: x, b :: y => by
    have ih := cmpB_anti x y
    simp only [cmpB, Lib.compareBytes] at ih ⊢
    by_cases h1 : a < b
    · have h2 : ¬ b < a := fun h => UInt8.lt_irrefl _ (UInt8.lt_trans h1 h)
      simp [h1, h2]
    · by_cases h2 : b < a
      · simp [h1, h2]
      · simp [h1, h2, ih]
theorem cmpB_zero : ∀ {x y : List UInt8}, cmpB x y = 0 ↔ x = y
  | [], [] => by simp [cmpB, Lib.compareBytes]
  | [], _ :: _ => by simp [cmpB, Lib.compareBytes]
  | _ :: _, [] => by simp [cmpB, Lib.compareBytes]
  | a :: x, b :: y => by
    have ih := @cmpB_zero x y
    simp only [cmpB, Lib.compareBytes] at ih ⊢
    by_cases h1 : a < b
    · have h2 : a ≠ b := fun h => UInt8.lt_irrefl _ (h ▸ h1)
      simp [h1, h2]
    · by_cases h2 : b < a
      · have h3 : a ≠ b := fun h => UInt8.lt_irrefl _ (h ▸ h2)
        simp [h1, h2, h3]
      · have h3 : a = b := UInt8.le_antisymm (UInt8.not_lt.1 h2) (UInt8.not_lt.1 h1)
        simp [h3, ih, UInt8.lt_irrefl]
theorem cmpB_trans : ∀ {x y z : List UInt8}, cmpB x y ≤ 0 → cmpB y z ≤ 0 → cmpB x z ≤ 0
  | [], _, [], _, _ => by simp [cmpB, Lib.compareBytes]
  | [], _, _ :: _, _, _ => by simp [cmpB, Lib.compareBytes]
  | _ :: _, [], _, h, _ => by simp [cmpB, Lib.compareBytes] at h
  | _ :: _, _ :: _, [], _, h => by simp [cmpB, Lib.compareBytes] at h
  | a :: x, b :: y, c :: z, h, k => by
    have ih := @cmpB_trans x y z
    simp only [cmpB, Lib.compareBytes] at ih h k ⊢
    by_cases h1 : a < c
    · simp [h1]
    · by_cases h2 : c < a
      · exfalso
        by_cases h3 : a < b
        · have h4 : c < b := UInt8.lt_trans h2 h3
          have h5 : ¬ b < c := fun h => UInt8.lt_irrefl _ (UInt8.lt_trans h4 h)
          simp [h4, h5] at k
        · by_cases h4 : b < a
          · simp [h3, h4] at h
          · have h5 : a = b := UInt8.le_antisymm (UInt8.not_lt.1 h4) (UInt8.not_lt.1 h3)
            subst h5
            simp [h1, h2] at k
      · have h3 : a = c := UInt8.le_antisymm (UInt8.not_lt.1 h2) (UInt8.not_lt.1 h1)
        subst h3
        simp only [UInt8.lt_irrefl, if_false]
        by_cases h4 : a < b
        · have h5 : ¬ b < a := fun h => UInt8.lt_irrefl _ (UInt8.lt_trans h4 h)
          simp [h4, h5] at k
        · by_cases h5 : b < a
          · simp [h4, h5] at h
          · simp [h4, h5] at h k
            exact ih h k

/-! ### the order -/
abbrev PN := List UInt8 × Nat
def ltP (a b : PN) : Prop := cmpB a.1 b.1 < 0 ∨ (a.1 = b.1 ∧ a.2 < b.2)
/-- one more comes into the order, behind those that it does not stand ahead of -/
def insO (O : List PN) (f : PN) : List PN := O.take (O.countP fun p => decide (cmpB p.1 f.1 ≤ 0)) ++ f :: O.drop (O.countP fun p => decide (cmpB p.1 f.1 ≤ 0))
def ordN (H : List (List UInt8)) : List PN := H.zipIdx.foldl insO []
theorem ordN_nil : ordN [] = [] := rfl
theorem ordN_push (H : List (List UInt8)) (h : List UInt8) : ordN (H ++ [h]) = insO (ordN H) (h, H.length) := by
  unfold ordN
  rw [List.zipIdx_append, List.foldl_append]
  simp
theorem insO_perm (O : List PN) (f : PN) : (insO O f).Perm (f :: O) := by
  unfold insO
  have := List.take_append_drop (O.countP fun p => decide (cmpB p.1 f.1 ≤ 0)) O
  exact (List.perm_middle).trans (List.Perm.cons f (by rw [this]))
theorem ordN_perm (H : List (List UInt8)) : (ordN H).Perm H.zipIdx := by
  unfold ordN
  have : ∀ (L O : List PN), (L.foldl insO O).Perm (O ++ L) := by
    intro L
    induction L with
    | nil => intro O; simp
    | cons f L ih =>
      intro O
      rw [List.foldl_cons]
      refine (ih _).trans ?_
      refine ((insO_perm O f).append_right L).trans ?_
      exact (List.perm_middle (a := f) (l₁ := O) (l₂ := L)).symm
  simpa using this H.zipIdx []
theorem ordN_length (H : List (List UInt8)) : (ordN H).length = H.length := by rw [(ordN_perm H).length_eq, List.length_zipIdx]
theorem ordN_mem {H : List (List UInt8)} {p : PN} : p ∈ ordN H ↔ H[p.2]? = some p.1 := by
  rw [(ordN_perm H).mem_iff, List.mem_zipIdx_iff_getElem?]
/-- a beginning of those that hold, in a list where they stand first -/
theorem countP_first {α : Type} {q : α → Bool} : ∀ {L : List α}, L.Pairwise (fun a b => q b = true → q a = true) → ∀ i (a : α), L[i]? = some a → (q a = true ↔ i < L.countP q)
  | [], _, i, a, h => by simp at h
  | b :: L, hp, i, a, h => by
    obtain ⟨h1, h2⟩ := List.pairwise_cons.1 hp
    cases hb : q b with
    | true =>
      rw [List.countP_cons_of_pos hb]
      cases i with
      | zero =>
        obtain rfl : b = a := by simpa using h
        simp [hb]
      | succ i =>
        rw [countP_first h2 i a (by simpa using h)]
        omega
    | false =>
      have h0 : L.countP q = 0 := List.countP_eq_zero.2 (fun x hx hq => by have := h1 x hx hq; rw [hb] at this; cases this)
      rw [List.countP_cons_of_neg (by simp [hb]), h0]
      cases i with
      | zero =>
        obtain rfl : b = a := by simpa using h
        simp [hb]
      | succ i =>
        have hm : a ∈ L := List.mem_of_getElem? (i := i) (by simpa using h)
        have : q a = false := by
          cases hq : q a with
          | false => rfl
          | true => have := h1 a hm hq; rw [hb] at this; cases this
        simp [this]
theorem ltP_le {a b : PN} (h : ltP a b) : cmpB a.1 b.1 ≤ 0 := by
  rcases h with h | ⟨h, _⟩
  · omega
  · rw [h, cmpB_self]; omega
theorem insO_sorted {O : List PN} (h : O.Pairwise ltP) {f : PN} (hf : ∀ p ∈ O, p.2 < f.2) : (insO O f).Pairwise ltP := by
  have hq : O.Pairwise (fun a b => decide (cmpB b.1 f.1 ≤ 0) = true → decide (cmpB a.1 f.1 ≤ 0) = true) := h.imp (fun {a b} hab hb => by
    rw [decide_eq_true_iff] at hb ⊢
    exact cmpB_trans (ltP_le hab) hb)
  have hsplit := List.take_append_drop (O.countP fun p => decide (cmpB p.1 f.1 ≤ 0)) O
  have h' := h
  rw [← hsplit, List.pairwise_append] at h'
  unfold insO
  have e1 : ∀ a ∈ O.take (O.countP fun p => decide (cmpB p.1 f.1 ≤ 0)), cmpB a.1 f.1 ≤ 0 := fun a ha => by
    obtain ⟨i, hi⟩ := List.mem_iff_getElem?.1 ha
    rw [List.getElem?_take] at hi
    split at hi
    · rename_i hlt
      simpa using (countP_first hq i a hi).2 hlt
    · cases hi
  have e2 : ∀ b ∈ O.drop (O.countP fun p => decide (cmpB p.1 f.1 ≤ 0)), 0 < cmpB b.1 f.1 := fun b hb => by
    obtain ⟨i, hi⟩ := List.mem_iff_getElem?.1 hb
    rw [List.getElem?_drop] at hi
    have := mt (countP_first hq _ b hi).1 (by omega)
    simp only [decide_eq_true_iff] at this
    omega
  refine List.pairwise_append.2 ⟨h'.1, List.pairwise_cons.2 ⟨fun b hb => ?_, h'.2.1⟩, fun a ha b hb => ?_⟩
  · have h3 := e2 b hb
    have h4 := cmpB_anti b.1 f.1
    left; omega
  · rcases List.mem_cons.1 hb with rfl | hb
    · have h3 := e1 a ha
      by_cases h4 : cmpB a.1 b.1 = 0
      · exact Or.inr ⟨cmpB_zero.1 h4, hf a (List.mem_of_mem_take ha)⟩
      · left; omega
    · exact h'.2.2 a ha b hb
theorem list_push {α : Type} (P : List α → Prop) (h0 : P []) (h1 : ∀ l a, P l → P (l ++ [a])) (l : List α) : P l := by
  rw [← List.reverse_reverse l]
  induction l.reverse with
  | nil => exact h0
  | cons a r ih => rw [List.reverse_cons]; exact h1 _ a ih
theorem ordN_sorted (H : List (List UInt8)) : (ordN H).Pairwise ltP := by
  refine list_push (fun H => (ordN H).Pairwise ltP) List.Pairwise.nil (fun H h ih => ?_) H
  rw [ordN_push]
  refine insO_sorted ih (fun p hp => ?_)
  have := ordN_mem.1 hp
  exact (List.getElem?_eq_some_iff.1 this).1
theorem ltP_irrefl (a : PN) : ¬ ltP a a := by
  rintro (h | ⟨_, h⟩)
  · rw [cmpB_self] at h; omega
  · omega
theorem ltP_asymm {a b : PN} (h : ltP a b) (k : ltP b a) : False := by
  have h1 := cmpB_anti a.1 b.1
  rcases h with h | ⟨h, h'⟩ <;> rcases k with k | ⟨k, k'⟩
  · omega
  · rw [k, cmpB_self] at h; omega
  · rw [h, cmpB_self] at k; omega
  · omega
/-- the one order -/
theorem ordN_eq {H : List (List UInt8)} {O : List PN} (h1 : O.Pairwise ltP) (h2 : O.Perm H.zipIdx) : O = ordN H :=
  List.Perm.eq_of_pairwise (le := ltP) (fun a b _ _ h k => (ltP_asymm h k).elim) h1 (ordN_sorted H) (h2.trans (ordN_perm H).symm)

/-! ### those of one hash -/
def likes (H : List (List UInt8)) (h : List UInt8) : List Nat := (H.zipIdx.filter fun p => decide (p.1 = h)).map (·.2)
theorem likes_nil (h : List UInt8) : likes [] h = [] := rfl
theorem likes_push (H : List (List UInt8)) (g h : List UInt8) : likes (H ++ [g]) h = likes H h ++ if g = h then [H.length] else [] := by
  unfold likes
  rw [List.zipIdx_append, List.filter_append, List.map_append]
  by_cases e : g = h <;> simp [e]
theorem likes_mem {H : List (List UInt8)} {h : List UInt8} {i : Nat} : i ∈ likes H h ↔ H[i]? = some h := by
  unfold likes
  simp only [List.mem_map, List.mem_filter, decide_eq_true_iff]
  constructor
  · rintro ⟨⟨a, j⟩, ⟨h1, h2⟩, h3⟩
    simp only at h2 h3
    subst h2 h3
    exact List.mem_zipIdx_iff_getElem?.1 h1
  · intro hi
    exact ⟨(h, i), ⟨List.mem_zipIdx_iff_getElem?.2 hi, rfl⟩, rfl⟩
theorem likes_sorted (H : List (List UInt8)) (h : List UInt8) : (likes H h).Pairwise (· < ·) := by
  refine list_push (fun H => (likes H h).Pairwise (· < ·)) List.Pairwise.nil (fun H g ih => ?_) H
  rw [likes_push]
  refine List.pairwise_append.2 ⟨ih, ?_, fun a ha b hb => ?_⟩
  · split <;> simp
  · have := (List.getElem?_eq_some_iff.1 (likes_mem.1 ha)).1
    split at hb
    · obtain rfl : b = H.length := by simpa using hb
      exact this
    · simp at hb
theorem likes_len (H : List (List UInt8)) (h : List UInt8) : (likes H h).length ≤ H.length := by
  unfold likes
  rw [List.length_map]
  exact Nat.le_trans (List.length_filter_le _ _) (by rw [List.length_zipIdx]; omega)
/-- the place that at and the length of by make -/
theorem place_is (H : List (List UInt8)) (h : List UInt8) : (ordN H).countP (fun p => decide (cmpB p.1 h < 0)) + (likes H h).length = (ordN H).countP (fun p => decide (cmpB p.1 h ≤ 0)) := by
  have e1 : (likes H h).length = (ordN H).countP (fun p => decide (p.1 = h)) := by
    unfold likes
    rw [List.length_map, ← List.countP_eq_length_filter, (ordN_perm H).countP_eq]
  rw [e1]
  generalize ordN H = O
  induction O with
  | nil => rfl
  | cons p O ih =>
    rw [List.countP_cons, List.countP_cons, List.countP_cons, ← ih]
    have h1 := @cmpB_zero p.1 h
    by_cases e : p.1 = h
    · have h2 := h1.2 e
      simp only [e, cmpB_self]
      simp; omega
    · have h2 : cmpB p.1 h ≠ 0 := fun k => e (h1.1 k)
      by_cases h3 : cmpB p.1 h < 0
      · have : cmpB p.1 h ≤ 0 := by omega
        simp [e, h3, this]; omega
      · have : ¬ cmpB p.1 h ≤ 0 := by omega
        simp [e, h3, this]
/-! ### the order, by bits -/
theorem byte_above {a b : Nat} (ha : a < 256) (hb : b < 256) : ∀ z, z ≤ 8 → (∀ k, k < z → a / 2 ^ (7 - k) % 2 = b / 2 ^ (7 - k) % 2) → a / 2 ^ (8 - z) = b / 2 ^ (8 - z)
  | 0, _, _ => by rw [Nat.div_eq_of_lt ha, Nat.div_eq_of_lt hb]
  | z + 1, hz, h => by
    have ih := byte_above ha hb z (by omega) (fun k hk => h k (by omega))
    have h1 := h z (by omega)
    have e : ∀ x : Nat, x / 2 ^ (8 - z) = x / 2 ^ (7 - z) / 2 := fun x => by
      rw [Nat.div_div_eq_div_mul, ← Nat.pow_succ]; congr 2; omega
    rw [e, e] at ih
    rw [show 8 - (z + 1) = 7 - z by omega]
    omega
theorem byte_lt_bit {a b z : Nat} (ha : a < 256) (hb : b < 256) (hz : z < 8) (h : ∀ k, k < z → a / 2 ^ (7 - k) % 2 = b / 2 ^ (7 - k) % 2) (hne : a / 2 ^ (7 - z) % 2 ≠ b / 2 ^ (7 - z) % 2) : a < b ↔ a / 2 ^ (7 - z) % 2 = 0 := by
  have h1 := byte_above ha hb z (by omega) h
  have e : ∀ x : Nat, x / 2 ^ (8 - z) = x / 2 ^ (7 - z) / 2 := fun x => by
    rw [Nat.div_div_eq_div_mul, ← Nat.pow_succ]; congr 2; omega
  rw [e, e] at h1
  have key : ∀ {x y : Nat}, x / 2 ^ (7 - z) < y / 2 ^ (7 - z) → x < y := fun {x y} hxy => by
    rcases Nat.lt_or_ge x y with h | h
    · exact h
    · have := Nat.div_le_div_right (c := 2 ^ (7 - z)) h; omega
  constructor
  · intro hab
    rcases Nat.mod_two_eq_zero_or_one (a / 2 ^ (7 - z)) with h2 | h2
    · exact h2
    · have : b / 2 ^ (7 - z) < a / 2 ^ (7 - z) := by omega
      have := key this; omega
  · intro h2
    exact key (by omega)
/-- the first place where two texts part -/
theorem first_part : ∀ {x y : List UInt8}, x.length = y.length → x ≠ y → ∃ i a b, i < x.length ∧ x.take i = y.take i ∧ x[i]? = some a ∧ y[i]? = some b ∧ a ≠ b
  | [], [], _, h => absurd rfl h
  | [], _ :: _, h, _ => by simp at h
  | _ :: _, [], h, _ => by simp at h
  | a :: x, b :: y, hl, h => by
    by_cases e : a = b
    · subst e
      obtain ⟨i, c, d, h1, h2, h3, h4, h5⟩ := first_part (x := x) (y := y) (by simpa using hl) (fun e => h (by rw [e]))
      exact ⟨i + 1, c, d, by simpa using h1, by simp [h2], by simpa using h3, by simpa using h4, h5⟩
    · exact ⟨0, a, b, by simp, rfl, rfl, rfl, e⟩
theorem bit_two (x : List UInt8) (k : Nat) : bitAt x k < 2 := Nat.mod_lt _ (by omega)
/-- of two hashes the one whose bit is 0 where they part stands ahead -/
theorem cmp_bit {x y : List UInt8} (hx : x.length = 32) (hy : y.length = 32) (hne : x ≠ y) : shareN x y < 256 ∧ bitAt x (shareN x y) ≠ bitAt y (shareN x y) ∧ (cmpB x y < 0 ↔ bitAt x (shareN x y) = 0) := by
  obtain ⟨i, a, b, h1, h2, h3, h4, h5⟩ := first_part (by rw [hx, hy]) hne
  rw [hx] at h1
  have hs := shareN_at h1 h2 h3 h4 h5
  generalize hz : 8 - Lib.bitLen (a.toNat ^^^ b.toNat) = z at hs
  obtain ⟨p1, p2, p3⟩ := bytes_part h5 hz.symm
  have hd : (8 * i + z) / 8 = i := by omega
  have hm : (8 * i + z) % 8 = z := by omega
  have ex : bitAt x (shareN x y) = a.toNat / 2 ^ (7 - z) % 2 := by
    rw [hs, bitAt, hd, hm, List.getD_eq_getElem?_getD, h3]; rfl
  have ey : bitAt y (shareN x y) = b.toNat / 2 ^ (7 - z) % 2 := by
    rw [hs, bitAt, hd, hm, List.getD_eq_getElem?_getD, h4]; rfl
  refine ⟨by omega, by rw [ex, ey]; exact p3, ?_⟩
  rw [ex, ← byte_lt_bit a.toNat_lt b.toNat_lt p1 p2 p3, cmpB_drop h2 (by rw [hx, hy])]
  obtain ⟨hx1, hx2⟩ := List.getElem?_eq_some_iff.1 h3
  obtain ⟨hy1, hy2⟩ := List.getElem?_eq_some_iff.1 h4
  rw [List.drop_eq_getElem_cons hx1, List.drop_eq_getElem_cons hy1, hx2, hy2]
  simp only [cmpB, Lib.compareBytes]
  by_cases h6 : a < b
  · simp only [h6, if_true]
    have := UInt8.lt_iff_toNat_lt.1 h6
    constructor
    · intro _; exact this
    · intro _; omega
  · have h7 : b < a := UInt8.lt_of_le_of_ne (UInt8.not_lt.1 h6) (Ne.symm h5)
    simp only [h6, h7, if_true, if_false]
    have := UInt8.lt_iff_toNat_lt.1 h7
    constructor
    · intro h; omega
    · intro h; omega
theorem shareN_comm (x y : List UInt8) : shareN x y = shareN y x := by
  obtain ⟨_, h2, h3, h4⟩ := shareTo_spec x y 256 0
  refine (shareN_eq (shareN_le x y) (fun k hk => (h3 k (Nat.zero_le _) hk).symm) (fun h => (h4 (by unfold shareN at h; omega)).symm)).symm
theorem share_bits {x y : List UInt8} {k : Nat} (h : k < shareN x y) : bitAt x k = bitAt y k := (shareTo_spec x y 256 0).2.2.1 k (Nat.zero_le _) h
/-- what lies between shares more -/
theorem share_mono {a b c : List UInt8} (ha : a.length = 32) (hb : b.length = 32) (hc : c.length = 32) (h1 : cmpB a b ≤ 0) (h2 : cmpB b c ≤ 0) : shareN a c ≤ shareN b c ∧ shareN a c ≤ shareN a b := by
  have le := shareN_le a c
  constructor
  · rcases Nat.lt_or_ge (shareN b c) (shareN a c) with h | h
    · exfalso
      have hne : b ≠ c := fun e => by rw [e, shareN_self] at h; omega
      obtain ⟨p1, p2, p3⟩ := cmp_bit hb hc hne
      have hlt : cmpB b c < 0 := by
        have := mt cmpB_zero.1 hne; omega
      have e0 := p3.1 hlt
      have e1 : bitAt a (shareN b c) = bitAt c (shareN b c) := share_bits h
      have hab : shareN a b = shareN b c := shareN_eq (by omega) (fun k hk => (share_bits (x := a) (y := c) (by omega)).trans (share_bits (x := b) (y := c) hk).symm) (fun _ => by omega)
      have hne2 : a ≠ b := fun e => by rw [e, shareN_self] at hab; omega
      obtain ⟨q1, q2, q3⟩ := cmp_bit ha hb hne2
      have hlt2 : cmpB a b < 0 := by
        have := mt cmpB_zero.1 hne2; omega
      have := q3.1 hlt2
      rw [hab] at this q2
      omega
    · exact h
  · rcases Nat.lt_or_ge (shareN a b) (shareN a c) with h | h
    · exfalso
      have hne : a ≠ b := fun e => by subst e; rw [shareN_self] at h; omega
      obtain ⟨p1, p2, p3⟩ := cmp_bit ha hb hne
      have hlt : cmpB a b < 0 := by
        have := mt cmpB_zero.1 hne; omega
      have e0 := p3.1 hlt
      have e1 : bitAt a (shareN a b) = bitAt c (shareN a b) := share_bits h
      have hbc : shareN b c = shareN a b := shareN_eq (by omega) (fun k hk => (share_bits (x := a) (y := b) hk).symm.trans (share_bits (x := a) (y := c) (by omega))) (fun _ => by omega)
      have hne2 : b ≠ c := fun e => by subst e; rw [shareN_self] at hbc; omega
      obtain ⟨q1, q2, q3⟩ := cmp_bit hb hc hne2
      have hlt2 : cmpB b c < 0 := by
        have := mt cmpB_zero.1 hne2; omega
      have := q3.1 hlt2
      rw [hbc] at this q2
      omega
    · exact h

/-! ### those that begin with some bits -/
def Len32 (H : List (List UInt8)) : Prop := ∀ h ∈ H, h.length = 32
theorem Len32.ord {H : List (List UInt8)} (hl : Len32 H) : ∀ p ∈ ordN H, p.1.length = 32 := fun _ hp => hl _ (List.mem_of_getElem? (ordN_mem.1 hp))
def bitsN (H : List (List UInt8)) (h : List UInt8) (b : Nat) : List Nat := (H.zipIdx.filter fun p => decide (b ≤ shareN p.1 h)).map (·.2)
theorem zip_rising (H : List (List UInt8)) : H.zipIdx.Pairwise (fun a b => a.2 < b.2) := by
  rw [List.pairwise_iff_getElem]
  intro i j hi hj hij
  simpa using hij
theorem bitsN_sorted (H : List (List UInt8)) (h : List UInt8) (b : Nat) : (bitsN H h b).Pairwise (· < ·) := by
  unfold bitsN
  exact List.pairwise_map.2 ((zip_rising H).filter _)
/-- what the program gathers -/
def gath (O : List PN) (h : List UInt8) (b : Nat) : List Nat := ((O.drop (O.countP fun p => decide (cmpB p.1 h < 0))).takeWhile fun p => decide (b ≤ shareN p.1 h)).map (·.2)
theorem takeWhile_filter {α : Type} {q : α → Bool} : ∀ {L : List α}, L.Pairwise (fun a b => q b = true → q a = true) → L.takeWhile q = L.filter q
  | [], _ => rfl
  | a :: L, h => by
    obtain ⟨h1, h2⟩ := List.pairwise_cons.1 h
    cases ha : q a with
    | true => rw [List.takeWhile_cons_of_pos ha, List.filter_cons_of_pos ha, takeWhile_filter h2]
    | false =>
      rw [List.takeWhile_cons_of_neg (by simp [ha]), List.filter_cons_of_neg (by simp [ha])]
      exact (List.filter_eq_nil_iff.2 (fun x hx hq => by have := h1 x hx hq; rw [ha] at this; cases this)).symm
theorem gath_perm {H : List (List UInt8)} (hl : Len32 H) {h m : List UInt8} {b : Nat} (hh : h.length = 32) (hm : m.length = 32) (hb : b ≤ 256) (h1 : ∀ k, k < b → bitAt m k = bitAt h k) (h0 : ∀ k, b ≤ k → k < 256 → bitAt m k = 0) :
    (gath (ordN H) m b).Perm (bitsN H h b) := by
  have hlO := Len32.ord hl
  have hsm : ∀ x : List UInt8, (b ≤ shareN x m ↔ b ≤ shareN x h) := fun x => by
    rw [shareN_ge hb, shareN_ge hb]
    exact ⟨fun k i hi => (k i hi).trans (h1 i hi), fun k i hi => (k i hi).trans (h1 i hi).symm⟩
  -- the least one of those
  have least : ∀ x : List UInt8, x.length = 32 → b ≤ shareN x m → ¬ cmpB x m < 0 := fun x hx hs hlt => by
    have hne : x ≠ m := fun e => by rw [e, cmpB_self] at hlt; omega
    obtain ⟨p1, p2, p3⟩ := cmp_bit hx hm hne
    have := p3.1 hlt
    rw [h0 _ hs p1] at p2
    exact p2 this
  have hs := ordN_sorted H
  have hqlt : (ordN H).Pairwise (fun a b => decide (cmpB b.1 m < 0) = true → decide (cmpB a.1 m < 0) = true) := hs.imp (fun {x y} hxy h => by
    rw [decide_eq_true_iff] at h ⊢
    have h2 := ltP_le hxy
    have h3 := cmpB_trans h2 (show cmpB y.1 m ≤ 0 by omega)
    by_cases e : cmpB x.1 m = 0
    · have e2 := cmpB_zero.1 e
      rw [e2] at h2
      have h4 := cmpB_anti m y.1
      omega
    · omega)
  have hdrop : ∀ p ∈ (ordN H).drop ((ordN H).countP fun p => decide (cmpB p.1 m < 0)), 0 ≤ cmpB p.1 m := fun p hp => by
    obtain ⟨i, hi⟩ := List.mem_iff_getElem?.1 hp
    rw [List.getElem?_drop] at hi
    have := mt (countP_first hqlt _ p hi).1 (by omega)
    simp only [decide_eq_true_iff] at this
    omega
  have htake : ∀ p ∈ (ordN H).take ((ordN H).countP fun p => decide (cmpB p.1 m < 0)), cmpB p.1 m < 0 := fun p hp => by
    obtain ⟨i, hi⟩ := List.mem_iff_getElem?.1 hp
    rw [List.getElem?_take] at hi
    split at hi
    · rename_i hlt
      simpa using (countP_first hqlt i p hi).2 hlt
    · cases hi
  have hpw : ((ordN H).drop ((ordN H).countP fun p => decide (cmpB p.1 m < 0))).Pairwise (fun x y => decide (b ≤ shareN y.1 m) = true → decide (b ≤ shareN x.1 m) = true) := by
    have h2 := hs.sublist (List.drop_sublist ((ordN H).countP fun p => decide (cmpB p.1 m < 0)) (ordN H))
    refine List.Pairwise.imp_of_mem (fun {x y} hx hy hxy hq => ?_) h2
    rw [decide_eq_true_iff] at hq ⊢
    have e1 := hdrop x hx
    have e2 := cmpB_anti x.1 m
    have := (share_mono hm (hlO x (List.mem_of_mem_drop hx)) (hlO y (List.mem_of_mem_drop hy)) (by omega) (ltP_le hxy)).2
    rw [shareN_comm y.1 m] at hq
    rw [shareN_comm x.1 m]
    omega
  unfold gath bitsN
  rw [takeWhile_filter hpw]
  refine List.Perm.map _ ?_
  have e1 : (ordN H).filter (fun p => decide (b ≤ shareN p.1 h)) = ((ordN H).drop ((ordN H).countP fun p => decide (cmpB p.1 m < 0))).filter (fun p => decide (b ≤ shareN p.1 m)) := by
    conv => lhs; rw [← List.take_append_drop ((ordN H).countP fun p => decide (cmpB p.1 m < 0)) (ordN H), List.filter_append]
    rw [List.filter_eq_nil_iff.2 (fun p hp => ?_), List.nil_append]
    · exact List.filter_congr (fun p _ => by rw [decide_eq_decide]; exact (hsm p.1).symm)
    · rw [decide_eq_true_iff]
      exact fun hq => least p.1 (hlO p (List.mem_of_mem_take hp)) ((hsm p.1).2 hq) (htake p hp)
  rw [← e1]
  exact (ordN_perm H).filter _
/-! ### how many bits tell one from the others -/
theorem first_lt {O : List PN} (hs : O.Pairwise ltP) (h : List UInt8) : O.Pairwise (fun a b => decide (cmpB b.1 h < 0) = true → decide (cmpB a.1 h < 0) = true) := hs.imp (fun {x y} hxy hb => by
  rw [decide_eq_true_iff] at hb ⊢
  have h2 := ltP_le hxy
  have h3 := cmpB_trans h2 (show cmpB y.1 h ≤ 0 by omega)
  by_cases e : cmpB x.1 h = 0
  · have e2 := cmpB_zero.1 e
    rw [e2] at h2
    have h4 := cmpB_anti h y.1
    omega
  · omega)
theorem first_le {O : List PN} (hs : O.Pairwise ltP) (h : List UInt8) : O.Pairwise (fun a b => decide (cmpB b.1 h ≤ 0) = true → decide (cmpB a.1 h ≤ 0) = true) := hs.imp (fun {a b} hab hb => by
  rw [decide_eq_true_iff] at hb ⊢
  exact cmpB_trans (ltP_le hab) hb)
def IsMost (H : List (List UInt8)) (h : List UInt8) (m : Nat) : Prop := (∀ x ∈ H, x ≠ h → shareN x h + 1 ≤ m) ∧ (m = 0 ∨ ∃ x ∈ H, x ≠ h ∧ m = shareN x h + 1)
theorem IsMost.unique {H : List (List UInt8)} {h : List UInt8} {m n : Nat} (a : IsMost H h m) (b : IsMost H h n) : m = n := by
  have key : ∀ {m n : Nat}, IsMost H h m → IsMost H h n → m ≤ n := fun {m n} a b => by
    rcases a.2 with h0 | ⟨x, h1, h2, h3⟩
    · omega
    · have := b.1 x h1 h2; omega
  exact Nat.le_antisymm (key a b) (key b a)
theorem IsMost.nil (h : List UInt8) : IsMost [] h 0 := ⟨fun x hx => by simp at hx, Or.inl rfl⟩
theorem IsMost.skip {H : List (List UInt8)} {h : List UInt8} {m : Nat} (a : IsMost H h m) : IsMost (H ++ [h]) h m := by
  refine ⟨fun x hx hne => ?_, ?_⟩
  · rcases List.mem_append.1 hx with hx | hx
    · exact a.1 x hx hne
    · exact absurd (by simpa using hx) hne
  · rcases a.2 with h0 | ⟨x, h1, h2, h3⟩
    · exact Or.inl h0
    · exact Or.inr ⟨x, List.mem_append_left _ h1, h2, h3⟩
theorem IsMost.push {H : List (List UInt8)} {h g : List UInt8} {m : Nat} (a : IsMost H h m) (hg : g ≠ h) : IsMost (H ++ [g]) h (max m (shareN g h + 1)) := by
  refine ⟨fun x hx hne => ?_, ?_⟩
  · rcases List.mem_append.1 hx with hx | hx
    · have := a.1 x hx hne; omega
    · obtain rfl : x = g := by simpa using hx
      omega
  · rcases Nat.le_total m (shareN g h + 1) with hm | hm
    · exact Or.inr ⟨g, by simp, hg, by omega⟩
    · rcases a.2 with h0 | ⟨x, h1, h2, h3⟩
      · omega
      · exact Or.inr ⟨x, List.mem_append_left _ h1, h2, by omega⟩
/-- what one beside it shares -/
def nb (O : List PN) (h : List UInt8) (i : Int) : Nat := if 0 ≤ i ∧ i < O.length then shareN (O.getD i.toNat ([], 0)).1 h + 1 else 0
def shortP (H : List (List UInt8)) (h : List UInt8) : Nat :=
  max (nb (ordN H) h ((ordN H).countP (fun p => decide (cmpB p.1 h < 0)) - 1 : Int)) (nb (ordN H) h ((ordN H).countP (fun p => decide (cmpB p.1 h < 0)) + (likes H h).length : Nat))
theorem short_is {H : List (List UInt8)} (hl : Len32 H) {h : List UInt8} (hh : h.length = 32) : IsMost H h (shortP H h) := by
  have hlO := Len32.ord hl
  have hs := ordN_sorted H
  have hpl := place_is H h
  have c1 := countP_first (first_lt hs h)
  have c2 := countP_first (first_le hs h)
  unfold shortP
  generalize hlo : (ordN H).countP (fun p => decide (cmpB p.1 h < 0)) = lo at *
  rw [hpl]
  generalize hhi : (ordN H).countP (fun p => decide (cmpB p.1 h ≤ 0)) = hi at *
  have lelo : lo ≤ (ordN H).length := by rw [← hlo]; exact List.countP_le_length
  have hget : ∀ i, i < (ordN H).length → ∃ p, (ordN H)[i]? = some p ∧ (ordN H).getD i ([], 0) = p ∧ p.1 ∈ H ∧ p.1.length = 32 := fun i hi => by
    refine ⟨_, List.getElem?_eq_getElem hi, by simp [List.getD, List.getElem?_eq_getElem hi], List.mem_of_getElem? (ordN_mem.1 (List.getElem_mem hi)), hlO _ (List.getElem_mem hi)⟩
  have hle : ∀ i j (p q : PN), (ordN H)[i]? = some p → (ordN H)[j]? = some q → i ≤ j → cmpB p.1 q.1 ≤ 0 := fun i j p q hp hq hij => by
    rcases Nat.eq_or_lt_of_le hij with rfl | hij
    · rw [hp] at hq; cases hq; rw [cmpB_self]; omega
    · obtain ⟨a1, a2⟩ := List.getElem?_eq_some_iff.1 hp
      obtain ⟨b1, b2⟩ := List.getElem?_eq_some_iff.1 hq
      have := List.pairwise_iff_getElem.1 hs i j a1 b1 hij
      rw [a2, b2] at this
      exact ltP_le this
  refine ⟨fun x hx hne => ?_, ?_⟩
  · obtain ⟨n, hn⟩ := List.mem_iff_getElem?.1 hx
    obtain ⟨j, hj⟩ := List.mem_iff_getElem?.1 (ordN_mem.2 (show H[(x, n).2]? = some (x, n).1 from hn))
    have hjl := (List.getElem?_eq_some_iff.1 hj).1
    have hx32 := hl x hx
    have hc0 := mt cmpB_zero.1 hne
    by_cases hlt : cmpB x h < 0
    · have hjlo := (c1 j _ hj).1 (by simpa using hlt)
      obtain ⟨p, p1, p2, p3, p4⟩ := hget (lo - 1) (by omega)
      have h1 := hle j (lo - 1) _ _ hj p1 (by omega)
      have h2 : cmpB p.1 h < 0 := by simpa using (c1 (lo - 1) p p1).2 (by omega)
      have := (share_mono hx32 p4 hh h1 (by omega)).1
      have e : nb (ordN H) h ((lo : Int) - 1) = shareN p.1 h + 1 := by
        unfold nb
        rw [if_pos (by omega), show ((lo : Int) - 1).toNat = lo - 1 by omega, p2]
      omega
    · have hjhi : hi ≤ j := by
        have := mt (c2 j _ hj).2 (by rw [decide_eq_true_iff]; show ¬ cmpB x h ≤ 0; omega)
        omega
      obtain ⟨p, p1, p2, p3, p4⟩ := hget hi (by omega)
      have h1 := hle hi j _ _ p1 hj hjhi
      have h2 : ¬ cmpB p.1 h ≤ 0 := by simpa using mt (c2 hi p p1).1 (by omega)
      have h3 := cmpB_anti p.1 h
      have := (share_mono hh p4 hx32 (by omega) h1).2
      have e : nb (ordN H) h ((hi : Nat) : Int) = shareN p.1 h + 1 := by
        unfold nb
        rw [if_pos (by omega), show ((hi : Nat) : Int).toNat = hi by omega, p2]
      rw [shareN_comm h x, shareN_comm h p.1] at this
      omega
  · have one : ∀ i : Int, (∀ p : PN, 0 ≤ i → (ordN H)[i.toNat]? = some p → p.1 ≠ h) → nb (ordN H) h i = 0 ∨ ∃ x ∈ H, x ≠ h ∧ nb (ordN H) h i = shareN x h + 1 := fun i hi => by
      by_cases hc : 0 ≤ i ∧ i < (ordN H).length
      · obtain ⟨p, p1, p2, p3, p4⟩ := hget i.toNat (by omega)
        refine Or.inr ⟨p.1, p3, hi p hc.1 p1, ?_⟩
        unfold nb
        rw [if_pos hc, p2]
      · left; unfold nb; rw [if_neg hc]
    have a1 := one ((lo : Int) - 1) (fun p h0 hp e => by
      have := (c1 _ p hp).2 (by omega)
      rw [e, cmpB_self] at this
      simp at this)
    have a2 := one ((hi : Nat) : Int) (fun p h0 hp e => by
      have := mt (c2 _ p hp).1 (by omega)
      rw [e, cmpB_self] at this
      simp at this)
    rcases Nat.le_total (nb (ordN H) h ((lo : Int) - 1)) (nb (ordN H) h ((hi : Nat) : Int)) with hm | hm
    · rw [Nat.max_eq_right hm]; exact a2
    · rw [Nat.max_eq_left hm]; exact a1

/-! ### counts by first bits -/
def topN (h : List UInt8) (b : Nat) : Nat := ((h.getD 0 0).toNat * 256 + (h.getD 1 0).toNat) / 2 ^ (16 - b)
theorem topN_zero (h : List UInt8) : topN h 0 = 0 := by
  have h1 := (h.getD 0 0).toNat_lt
  have h2 := (h.getD 1 0).toNat_lt
  unfold topN
  exact Nat.div_eq_of_lt (by omega)
theorem topN_lt (h : List UInt8) {b : Nat} (hb : b ≤ 16) : topN h b < 2 ^ b := by
  have h1 := (h.getD 0 0).toNat_lt
  have h2 := (h.getD 1 0).toNat_lt
  unfold topN
  rw [Nat.div_lt_iff_lt_mul (Nat.two_pow_pos _), ← Nat.pow_add, show b + (16 - b) = 16 by omega]
  omega
theorem topN_succ (h : List UInt8) {b : Nat} (hb : b < 16) : topN h (b + 1) = 2 * topN h b + bitAt h b := by
  have h1 := (h.getD 0 0).toNat_lt
  have h2 := (h.getD 1 0).toNat_lt
  unfold topN bitAt
  have e0 : ∀ n : Nat, n / 2 ^ (16 - b) = n / 2 ^ (15 - b) / 2 := fun n => by
    rw [Nat.div_div_eq_div_mul, ← Nat.pow_succ]; congr 2; omega
  rw [e0, show 16 - (b + 1) = 15 - b by omega]
  have e1 : ((h.getD 0 0).toNat * 256 + (h.getD 1 0).toNat) / 2 ^ (15 - b) % 2 = (h.getD (b / 8) 0).toNat / 2 ^ (7 - b % 8) % 2 := by
    rcases Nat.lt_or_ge b 8 with h3 | h3
    · rw [show b / 8 = 0 by omega, show b % 8 = b by omega, show 15 - b = 8 + (7 - b) by omega, Nat.pow_add, ← Nat.div_div_eq_div_mul]
      congr 2
      omega
    · rw [show b / 8 = 1 by omega, show 7 - b % 8 = 15 - b by omega]
      have e2 : (h.getD 0 0).toNat * 256 = 2 ^ (15 - b) * ((h.getD 0 0).toNat * (2 * 2 ^ (b - 8))) := by
        rw [Nat.mul_left_comm]
        congr 1
        rw [Nat.mul_left_comm, ← Nat.pow_add, show 15 - b + (b - 8) = 7 by omega]
      rw [e2, Nat.mul_add_div (Nat.two_pow_pos _), ← Nat.mul_assoc, Nat.mul_comm _ 2, Nat.mul_assoc]
      omega
  omega
def countsN (H : List (List UInt8)) (b : Nat) : List Nat := (List.range (2 ^ b)).map fun j => H.countP fun h => decide (topN h b = j)
theorem countsN_ord (H : List (List UInt8)) (b : Nat) : (List.range (2 ^ b)).map (fun j => (ordN H).countP fun p => decide (topN p.1 b = j)) = countsN H b := by
  unfold countsN
  refine List.map_congr_left (fun j _ => ?_)
  rw [(ordN_perm H).countP_eq]
  have e : ∀ (L : List (List UInt8)) (k : Nat), (L.zipIdx k).countP (fun p => decide (topN p.1 b = j)) = L.countP (fun h => decide (topN h b = j)) := by
    intro L
    induction L with
    | nil => intro k; rfl
    | cons a L ih =>
      intro k
      rw [List.zipIdx_cons, List.countP_cons, List.countP_cons, ih]
  exact e H 0

/-! ### entries of one hash -/
def twoOf (H : List (List UInt8)) (p : PN) : Bool := decide (1 < (likes H p.1).length ∧ (likes H p.1).head? = some p.2)
def twiceN (H : List (List UInt8)) : List (List Nat) := (H.zipIdx.filter (twoOf H)).map fun p => likes H p.1
theorem twice_perm (H : List (List UInt8)) : (((ordN H).filter (twoOf H)).map fun p => likes H p.1).Perm (twiceN H) := ((ordN_perm H).filter _).map _
theorem twice_heads (H : List (List UInt8)) : (twiceN H).Pairwise (fun a b => ∃ i j, a.head? = some i ∧ b.head? = some j ∧ i < j) := by
  unfold twiceN
  refine List.pairwise_map.2 (List.Pairwise.imp_of_mem (fun {a b} ha hb hab => ?_) ((zip_rising H).filter (twoOf H)))
  have h1 := (List.mem_filter.1 ha).2
  have h2 := (List.mem_filter.1 hb).2
  unfold twoOf at h1 h2
  rw [decide_eq_true_iff] at h1 h2
  exact ⟨a.2, b.2, h1.2, h2.2, hab⟩
/-- the one rising order of those lists -/
theorem twice_eq {H : List (List UInt8)} {L : List (List Nat)} (hp : L.Perm (twiceN H)) (hs : L.Pairwise (fun a b => ∀ i j, a.head? = some i → b.head? = some j → i ≤ j)) : L = twiceN H := by
  have hm : ∀ l ∈ twiceN H, ∃ i, l.head? = some i ∧ ∃ h, H[i]? = some h ∧ l = likes H h := fun l hl => by
    obtain ⟨p, hp, rfl⟩ := List.mem_map.1 hl
    have h1 := (List.mem_filter.1 hp).2
    unfold twoOf at h1
    rw [decide_eq_true_iff] at h1
    exact ⟨p.2, h1.2, p.1, List.mem_zipIdx_iff_getElem?.1 (List.mem_filter.1 hp).1, rfl⟩
  refine List.Perm.eq_of_pairwise (le := fun a b => ∀ i j, a.head? = some i → b.head? = some j → i ≤ j) (fun a b ha hb h k => ?_) hs ((twice_heads H).imp (fun {a b} ⟨i, j, h1, h2, h3⟩ i' j' k1 k2 => ?_)) hp
  · obtain ⟨i, i1, x, i2, i3⟩ := hm a (hp.mem_iff.1 ha)
    obtain ⟨j, j1, y, j2, j3⟩ := hm b hb
    have e := Nat.le_antisymm (h i j i1 j1) (k j i j1 i1)
    subst e
    rw [i2] at j2
    cases j2
    rw [i3, j3]
  · rw [h1] at k1; rw [h2] at k2
    cases k1; cases k2; omega

end Go.Proofs.Ytljobojdcnhecaa
