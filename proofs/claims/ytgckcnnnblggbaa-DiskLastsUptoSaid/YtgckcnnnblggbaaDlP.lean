/- Disk: plain: a stop as the program reckons it is a stop as the model says it. -/
import Derived.Test.YtgckcnnnblggbaaDkV
namespace Go.Proofs.Ytgckcnnnblggbaa
open Go.RowKit Go.Maps

/-- a region that ends as it should, and how it ends: walked apart, so a round's end is walked once -/
def onlyN (K : Act → World → Prop) : Exit → Act → World → Prop
  | .normal, a, w => K a w
  | _, _, _ => False
theorem wp_onlyN {P : Program} {c : Code} {Q : Exit → Act → World → Prop} {a : Act} {w : World} (K : Act → World → Prop) (h : c.wp P (onlyN K) a w) (hk : ∀ a w, K a w → Q .normal a w) : c.wp P Q a w :=
  wp_mono h fun e a w h => by cases e <;> first | exact hk _ _ h | exact h.elim

/-- is the write x, the k-th, kept? -/
def isK (l : NL) (keep : List Bool) (x : Wr) (k : Nat) : Bool := leadsTo l x.file && keep.getD k false
theorem keptW_succ {s : DSt} {l : NL} {keep : List Bool} {i : Nat} {x : Wr} (hx : s.writes[i]? = some x) : keptW s l keep (i + 1) = keptW s l keep i ++ (if isK l keep x i then [x] else []) := by
  unfold keptW isK
  have hz : s.writes.zipIdx[i]? = some (x, i) := by simp [hx]
  rw [List.take_add_one, hz, List.filter_append, List.map_append]
  congr 1
  simp only [Option.toList_some, List.filter_cons, List.filter_nil]
  split <;> simp_all
theorem keptW_pre (s : DSt) (l : NL) (keep : List Bool) {i j : Nat} (h : i ≤ j) : ∃ r, keptW s l keep j = keptW s l keep i ++ r := by
  induction j with
  | zero => obtain rfl : i = 0 := by omega
            exact ⟨[], by simp⟩
  | succ j ih =>
    by_cases hij : i = j + 1
    · subst hij; exact ⟨[], by simp⟩
    · obtain ⟨r, hr⟩ := ih (by omega)
      cases hx : s.writes[j]? with
      | none =>
        refine ⟨r, ?_⟩
        rw [← hr]; unfold keptW
        have : s.writes.length ≤ j := by simpa using hx
        rw [List.take_of_length_le (by simp; omega), List.take_of_length_le (by simp; omega)]
      | some x => rw [keptW_succ hx, hr]; exact ⟨_, List.append_assoc _ _ _⟩
theorem keptW_get {s : DSt} {l : NL} {keep : List Bool} {i j : Nat} {x : Wr} (hx : s.writes[i]? = some x) (hk : isK l keep x i = true) (hij : i < j) : (keptW s l keep j)[(keptW s l keep i).length]? = some x := by
  obtain ⟨r, hr⟩ := keptW_pre s l keep (i := i + 1) (j := j) (by omega)
  rw [hr, keptW_succ hx, hk]
  simp
theorem keptAt_eq {s : DSt} {l : NL} {keep : List Bool} {k : Nat} {x : Wr} (hx : s.writes[k]? = some x) : keptAt s l keep k = isK l keep x k := by
  unfold keptAt isK; rw [hx, Bool.and_comm]
theorem keptW_lt {s : DSt} {l : NL} {keep : List Bool} {i j : Nat} {x : Wr} (hx : s.writes[i]? = some x) (hk : isK l keep x i = true) (hij : i < j) : (keptW s l keep i).length < (keptW s l keep j).length := by
  have := keptW_get hx hk hij
  exact (List.getElem?_eq_some_iff.1 this).1

/-- the last in the one reckoning and in the other -/
def SameLast (s : DSt) (l : NL) (keep : List Bool) : Option Nat → Option Nat → Prop
  | none, none => True
  | some j, some k => (keptW s l keep k).length = j ∧ ∃ x, s.writes[k]? = some x ∧ isK l keep x k = true
  | _, _ => False
theorem lastW_congr {K K' : List Wr} : ∀ n : Nat, (∀ k, k < n → K[k]? = K'[k]?) → lastW K n = lastW K' n
  | 0, _ => rfl
  | n + 1, h => by
    unfold lastW
    rw [h n (by omega), lastW_congr n (fun k hk => h k (by omega))]
theorem same_last (s : DSt) (l : NL) (keep : List Bool) : ∀ i, i ≤ s.writes.length → SameLast s l keep (lastW (keptW s l keep i) (keptW s l keep i).length) (lastKept s l keep i)
  | 0, _ => by simp [keptW, lastW, lastKept, SameLast]
  | i + 1, hi => by
    have ih := same_last s l keep i (by omega)
    obtain ⟨x, hx⟩ : ∃ x, s.writes[i]? = some x := ⟨s.writes[i]'(by omega), by simp⟩
    unfold lastKept
    rw [keptAt_eq hx, keptW_succ hx, hx]
    simp only []
    cases hk : isK l keep x i
    · simp only [Bool.false_and, Bool.false_eq_true, if_false, List.append_nil]; exact ih
    · simp only [if_true, Bool.true_and, List.length_append, List.length_cons, List.length_nil]
      unfold lastW
      have hg : (keptW s l keep i ++ [x])[(keptW s l keep i).length]? = some x := by simp
      simp only [hg, Option.map_some, Option.getD_some]
      cases hc : x.cut
      · simp only [Bool.false_eq_true, if_false, Bool.not_false, if_true]
        exact ⟨rfl, x, hx, hk⟩
      · simp only [if_true, Bool.not_true, Bool.false_eq_true, if_false]
        rw [lastW_congr (K' := keptW s l keep i) _ (fun k hk => by rw [List.getElem?_append_left hk])]
        exact ih
theorem size_laid {s : DSt} {l : NL} {keep : List Bool} {a b : Option Nat} (h : SameLast s l keep a b) {i : Nat} {x : Wr} (hx : s.writes[i]? = some x) (hk : isK l keep x i = true) (torn : Int) : sizeW a torn (keptW s l keep i).length x = laidOf b torn i x := by
  have hiff : a = some (keptW s l keep i).length ↔ b = some i := by
    cases a <;> cases b <;> simp only [SameLast] at h
    · simp
    · rename_i j k
      obtain ⟨h1, y, hy, hyk⟩ := h
      simp only [Option.some.injEq]
      constructor
      · intro e
        rcases Nat.lt_trichotomy k i with hlt | heq | hgt
        · have := keptW_lt hy hyk hlt; omega
        · exact heq
        · have := keptW_lt hx hk hgt; omega
      · rintro rfl; omega
  unfold sizeW laidOf
  by_cases h1 : b = some i
  · have h2 := hiff.2 h1
    by_cases h3 : 0 ≤ torn
    · by_cases h4 : torn < x.data.length
      · rw [if_pos ⟨h2, h3⟩, if_pos ⟨h1, h3, h4⟩]; omega
      · rw [if_pos ⟨h2, h3⟩, if_neg (fun h => h4 h.2.2)]; omega
    · rw [if_neg (fun h => h3 h.2), if_neg (fun h => h3 h.2.1)]
  · rw [if_neg (fun h => h1 (hiff.1 h.1)), if_neg (fun h => h1 h.1)]
theorem data_is {s : DSt} {l : NL} {keep : List Bool} (torn : Int) {f : Nat} (hf : leadsTo l f = true) : ∀ i, i ≤ s.writes.length →
    dataW s (keptW s l keep s.writes.length) (lastW (keptW s l keep s.writes.length) (keptW s l keep s.writes.length).length) torn (keptW s l keep i).length f = stopFile s keep (lastKept s l keep s.writes.length) torn f i
  | 0, _ => by simp [keptW, dataW, stopFile]
  | i + 1, hi => by
    have ih := data_is (s := s) torn hf (keep := keep) i (by omega)
    obtain ⟨x, hx⟩ : ∃ x, s.writes[i]? = some x := ⟨s.writes[i]'(by omega), by simp⟩
    have hlen := congrArg List.length (keptW_succ (l := l) (keep := keep) hx)
    unfold stopFile
    simp only [hx]
    rw [hlen]
    cases hk : isK l keep x i
    · simp only [Bool.false_eq_true, if_false, List.append_nil]
      rw [ih]
      have hne : (keep.getD i false && x.file == f) = false := by
        unfold isK at hk
        cases hkk : keep.getD i false
        · rfl
        · rw [hkk, Bool.and_true] at hk
          cases hxf : x.file == f
          · rfl
          · rw [beq_iff_eq] at hxf; subst hxf; rw [hf] at hk; cases hk
      rw [hne]
      rfl
    · simp only [if_true, List.length_append, List.length_cons, List.length_nil]
      have hkk : keep.getD i false = true := by unfold isK at hk; simp at hk; simpa using hk.2
      rw [show (keptW s l keep i).length + (0 + 1) = (keptW s l keep i).length + 1 from rfl]
      conv => lhs; unfold dataW
      rw [keptW_get (j := s.writes.length) hx hk (by omega)]
      simp only []
      rw [size_laid (same_last s l keep s.writes.length (Nat.le_refl _)) hx hk, ih, hkk]
      by_cases hxf : x.file = f
      · simp [hxf]
      · have : (x.file == f) = false := by simpa using hxf
        simp [hxf]

/-- the files behind a stop, as the program reckons them -/
theorem stop_is (s : DSt) (names : Int) (keep : List Bool) (torn : Int) :
    s.stop names keep torn = DSt.ofFiles s.room ((stopNames s names).map fun p => (p.1, dataW s (keptW s (stopNames s names) keep s.writes.length) (lastW (keptW s (stopNames s names) keep s.writes.length) (keptW s (stopNames s names) keep s.writes.length).length) torn (keptW s (stopNames s names) keep s.writes.length).length p.2)) := by
  unfold DSt.stop
  simp only []
  congr 1
  refine List.map_congr_left fun p hp => ?_
  rw [data_is torn (by unfold leadsTo; rw [List.any_eq_true]; exact ⟨p, hp, by simp⟩) _ (Nat.le_refl _)]

end Go.Proofs.Ytgckcnnnblggbaa
