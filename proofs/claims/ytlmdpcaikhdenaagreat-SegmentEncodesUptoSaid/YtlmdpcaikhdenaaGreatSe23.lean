/- Texts of this claim, one behind the other: DlA, DlP, DlB. -/
import Derived.Test.YtlmdpcaikhdenaaGreatSe22
import Derived.Test.YtlmdpcaikhdenaaGreatSe21
import Derived.BigRegion
import Derived.Deep.CutRange
set_option linter.unusedSimpArgs false
set_option linter.unusedVariables false
/- Disk: Stop: the fourth loop: the last kept write that is no cut. -/
namespace Go.Proofs.YtlmdpcaikhdenaaGreat
open Go.RowKit Go.Maps Go.Shelf

theorem laid_len (b : List UInt8) (x : Wr) {n m : Nat} (hn : n ≤ x.data.length) (hb : b.length ≤ m) (hx : x.place + x.data.length ≤ m) : (laid b x n).length ≤ m := by
  unfold laid
  split
  · simp; omega
  · split
    · exact hb
    · simp; omega
theorem sizeW_le (last : Option Nat) (torn : Int) (i : Nat) (x : Wr) : sizeW last torn i x ≤ x.data.length := by
  unfold sizeW; split <;> omega
theorem dataW_len {s : DSt} {K : List Wr} {last : Option Nat} {torn : Int} {m : Nat} (h0 : ∀ f, (s.lasts f).length ≤ m) (hK : ∀ x ∈ K, x.place + x.data.length ≤ m) : ∀ i f, (dataW s K last torn i f).length ≤ m
  | 0, f => h0 f
  | i + 1, f => by
    have ih := dataW_len (last := last) (torn := torn) h0 hK i f
    unfold dataW
    split
    · rename_i x hx
      split
      · exact laid_len _ _ (sizeW_le _ _ _ _) ih (hK x (List.mem_of_getElem? hx))
      · exact ih
    · exact ih
/-- the writes that are kept, as they lie -/
def KeptV (w : World) (v : Value) (K : List Wv) : Prop := ∃ a cap, v = .slice a K.length cap ∧ ∀ (k : Nat) x, K[k]? = some x → ∃ g cur t, a = some ⟨g, 0, none⟩ ∧ w.heap[g]? = some (.cells cur t (0, 0)) ∧ ∀ c u, (encW x)[c]? = some u → cur.toList[k * 4 + c]? = some u
theorem KeptV.of_owns {w : World} {base : Nat} {v : Value} {K : List Wv} (h : w.ownsRow base 125 4 v K.length (K.map encW).flatten) : KeptV w v K := by
  rcases h.2 with ⟨hv, hz⟩ | ⟨gw, cap, cur, hv, _, hgw, _, _, _, ht⟩
  · subst hv
    obtain rfl := List.length_eq_zero_iff.1 hz
    exact ⟨none, 0, rfl, fun k x hx => by cases hx⟩
  · refine ⟨_, cap, hv, fun k x hx => ⟨gw, cur, _, rfl, hgw, fun c u hu => ?_⟩⟩
    have := cells_of_flat K cur.toList ht k x hx c u hu
    simpa using this
theorem KeptV.kept {O : Nat → Prop} {w w' : World} {v : Value} {K : List Wv} (h : KeptV w v K) (hc : Chg O w w') (hO : ∀ k, v.ownBlock = some k → ¬ O k) : KeptV w' v K := by
  obtain ⟨a, cap, rfl, h⟩ := h
  refine ⟨a, cap, rfl, fun k x hx => ?_⟩
  obtain ⟨g, cur, t, rfl, hg, hcu⟩ := h k x hx
  exact ⟨g, cur, t, rfl, hc.obj hg (hO g rfl), hcu⟩
def lastI : Option Nat → Int
  | some k => (k : Int)
  | none => -1

set_option maxRecDepth 1000000 in
set_option maxHeartbeats 4000000 in
theorem stop_loop4 {w0 : World} {p bs ml md : Nat} {v : Value} {kp : List (Wv × Wr)} (hv : KeptV w0 v (kp.map (·.1))) (hcut : ∀ q ∈ kp, q.1.2.2.1 = q.2.cut) (hn : kp.length ≤ maxList)
    {Q0 : Exit → Act → World → Prop} (c1 c2 c6 c7 c9 c10 c12 c13 c14 c15 c17 c18 c19 c20 c21 c22 c23 c24 c25 c26 c27 c28 c29 c30 c31 c32 c33 c34 c35 c36 c37 c38 c39 c40 c41 c42 c43 c44 c45 c46 c47 c48 c49 c50 c51 c52 c53 c54 c55 c56 c57 c58 c59 c60 c61 c62 c63 c64 c65 c66 c67 c68 c69 c70 c71 c72 c73 c74 c75 c76 c77 c78 c79 c80 c81 c82 c83 c84 c85 c86 c87 c88 c89 c90 c91 c92 c93 c94 c95 c96 c97 c98 c99 c100 c101 c102 c103 c104 c105 c106 c107 c108 c109 c110 c111 c112 c113 c114 c126 c127 c128 c129 c130 c131 c132 c133 c134 c135 c136 c137 c138 c139 c140 c141 c142 c143 c144 c145 c146 c147 c148 c149 c150 c151 c152 c153 c154 c155 c156 c157 c158 c159 c160 c161 c162 c163 c164 c165 c166 c167 c168 c169 c170 c171 c172 c173 c174 c175 c176 c177 c178 c179 c180 c181 c182 c183 c184 c185 c186 c187 c188 c189 c190 c191 c192 c193 c194 c195 c196 c197 c198 c199 c200 c201 c202 c203 c204 c205 c206 c207 c208 c209 c210 c211 c212 u115 u116 u117 u118 u119 u120 u121 u122 u123 u124 u125 : Value)
    (hexit : ∀ (u115 u116 u117 u118 u119 u120 u121 u122 u123 u124 u125 : Value), Q0 (.exit 6) ⟨(.pointer (some ⟨p, 0, none⟩) :: c1 :: c2 :: .pointer (some ⟨bs, 0, none⟩) :: .pointer none :: .map (some ml) :: c6 :: c7 :: .map (some md) :: c9 :: c10 :: v :: c12 :: c13 :: c14 :: c15 :: .int .i64 (lastI (lastW (kp.map (·.2)) kp.length)) :: c17 :: c18 :: c19 :: c20 :: c21 :: c22 :: c23 :: c24 :: c25 :: c26 :: c27 :: c28 :: c29 :: c30 :: c31 :: c32 :: c33 :: c34 :: c35 :: c36 :: c37 :: c38 :: c39 :: c40 :: c41 :: c42 :: c43 :: c44 :: c45 :: c46 :: c47 :: c48 :: c49 :: c50 :: c51 :: c52 :: c53 :: c54 :: c55 :: c56 :: c57 :: c58 :: c59 :: c60 :: c61 :: c62 :: c63 :: c64 :: c65 :: c66 :: c67 :: c68 :: c69 :: c70 :: c71 :: c72 :: c73 :: c74 :: c75 :: c76 :: c77 :: c78 :: c79 :: c80 :: c81 :: c82 :: c83 :: c84 :: c85 :: c86 :: c87 :: c88 :: c89 :: c90 :: c91 :: c92 :: c93 :: c94 :: c95 :: c96 :: c97 :: c98 :: c99 :: c100 :: c101 :: c102 :: c103 :: c104 :: c105 :: c106 :: c107 :: c108 :: c109 :: c110 :: c111 :: c112 :: c113 :: c114 :: u115 :: u116 :: u117 :: u118 :: u119 :: u120 :: u121 :: u122 :: u123 :: u124 :: u125 :: c126 :: c127 :: c128 :: c129 :: c130 :: c131 :: c132 :: c133 :: c134 :: c135 :: c136 :: c137 :: c138 :: c139 :: c140 :: c141 :: c142 :: c143 :: c144 :: c145 :: c146 :: c147 :: c148 :: c149 :: c150 :: c151 :: c152 :: c153 :: c154 :: c155 :: c156 :: c157 :: c158 :: c159 :: c160 :: c161 :: c162 :: c163 :: c164 :: c165 :: c166 :: c167 :: c168 :: c169 :: c170 :: c171 :: c172 :: c173 :: c174 :: c175 :: c176 :: c177 :: c178 :: c179 :: c180 :: c181 :: c182 :: c183 :: c184 :: c185 :: c186 :: c187 :: c188 :: c189 :: c190 :: c191 :: c192 :: c193 :: c194 :: c195 :: c196 :: c197 :: c198 :: c199 :: c200 :: c201 :: c202 :: c203 :: c204 :: c205 :: c206 :: c207 :: c208 :: c209 :: c210 :: c211 :: c212 :: ([] : List Value)).toArray, []⟩ w0) :
    Code.wp Tryz.prog (Code.loop (stopLoop 3)) Q0 ⟨(.pointer (some ⟨p, 0, none⟩) :: c1 :: c2 :: .pointer (some ⟨bs, 0, none⟩) :: .pointer none :: .map (some ml) :: c6 :: c7 :: .map (some md) :: c9 :: c10 :: v :: c12 :: c13 :: c14 :: c15 :: .int .i64 ((kp.length : Int) - 1) :: c17 :: c18 :: c19 :: c20 :: c21 :: c22 :: c23 :: c24 :: c25 :: c26 :: c27 :: c28 :: c29 :: c30 :: c31 :: c32 :: c33 :: c34 :: c35 :: c36 :: c37 :: c38 :: c39 :: c40 :: c41 :: c42 :: c43 :: c44 :: c45 :: c46 :: c47 :: c48 :: c49 :: c50 :: c51 :: c52 :: c53 :: c54 :: c55 :: c56 :: c57 :: c58 :: c59 :: c60 :: c61 :: c62 :: c63 :: c64 :: c65 :: c66 :: c67 :: c68 :: c69 :: c70 :: c71 :: c72 :: c73 :: c74 :: c75 :: c76 :: c77 :: c78 :: c79 :: c80 :: c81 :: c82 :: c83 :: c84 :: c85 :: c86 :: c87 :: c88 :: c89 :: c90 :: c91 :: c92 :: c93 :: c94 :: c95 :: c96 :: c97 :: c98 :: c99 :: c100 :: c101 :: c102 :: c103 :: c104 :: c105 :: c106 :: c107 :: c108 :: c109 :: c110 :: c111 :: c112 :: c113 :: c114 :: u115 :: u116 :: u117 :: u118 :: u119 :: u120 :: u121 :: u122 :: u123 :: u124 :: u125 :: c126 :: c127 :: c128 :: c129 :: c130 :: c131 :: c132 :: c133 :: c134 :: c135 :: c136 :: c137 :: c138 :: c139 :: c140 :: c141 :: c142 :: c143 :: c144 :: c145 :: c146 :: c147 :: c148 :: c149 :: c150 :: c151 :: c152 :: c153 :: c154 :: c155 :: c156 :: c157 :: c158 :: c159 :: c160 :: c161 :: c162 :: c163 :: c164 :: c165 :: c166 :: c167 :: c168 :: c169 :: c170 :: c171 :: c172 :: c173 :: c174 :: c175 :: c176 :: c177 :: c178 :: c179 :: c180 :: c181 :: c182 :: c183 :: c184 :: c185 :: c186 :: c187 :: c188 :: c189 :: c190 :: c191 :: c192 :: c193 :: c194 :: c195 :: c196 :: c197 :: c198 :: c199 :: c200 :: c201 :: c202 :: c203 :: c204 :: c205 :: c206 :: c207 :: c208 :: c209 :: c210 :: c211 :: c212 :: ([] : List Value)).toArray, []⟩ w0 := by
  have hmx : maxList = 4194304 := rfl
  obtain ⟨va, vc, rfl, hat⟩ := hv
  rw [List.length_map] at *
  conv => arg 2; arg 1; whnf
  go_loopw [16] (fun i wr => ∃ k : Nat, k ≤ kp.length ∧ i = .int .i64 ((k : Int) - 1) ∧ wr = w0 ∧ lastW (kp.map (·.2)) kp.length = lastW (kp.map (·.2)) k) (fun i _ => ((RowKit.intOf i) + 1).toNat)
  case atStart => exact ⟨kp.length, Nat.le_refl _, rfl, rfl, rfl⟩
  case round =>
    obtain ⟨k, hk, rfl, rfl, hlw⟩ := hrel
    cases k with
    | zero =>
      have e1 : ((0 : Nat) : Int) - 1 = -1 := rfl
      rw [e1]
      have hE := hexit
      rw [hlw] at hE
      go_wp2
      exact hE _ _ _ _ _ _ _ _ _ _ _
    | succ k =>
      have e1 : ((k + 1 : Nat) : Int) - 1 = (k : Int) := by omega
      rw [e1]
      obtain ⟨q, hq⟩ : ∃ q, kp[k]? = some q := ⟨kp[k]'(by omega), by simp⟩
      obtain ⟨g, cur, t, rfl, hg, hcu⟩ := hat k q.1 (by simp [hq])
      have hqc := hcut q (List.mem_of_getElem? hq)
      have hlk : lastW (kp.map (·.2)) (k + 1) = if q.2.cut then lastW (kp.map (·.2)) k else some k := by
        simp [lastW, hq]
      have c2 := cell_of_heap hg (i := k * 4 + 2) (v := .bool q.2.cut) (by have := hcu 2 (.bool q.1.2.2.1) rfl; rw [hqc] at this; simpa using this)
      have j0 : (0 : Int) ≤ (k : Int) := by omega
      have j1 : (k : Int) < (kp.length : Int) := by omega
      have HLW := Lib.hid hlw; clear hlw
      cases hqq : q.2.cut with
      | true =>
        rw [hqq] at c2 hlk
        have HLK := Lib.hid hlk; clear hlk hqc hcu
        go_wp2
        go_roundw
        case rel => exact ⟨k, by omega, by go_num, trivial, by rw [HLW.out, HLK.out]; rfl⟩
        case measure => simp [RowKit.intOf]
      | false =>
        rw [hqq] at c2 hlk
        have hE := hexit
        rw [HLW.out, hlk] at hE
        clear hlk hqc hcu
        go_wp2
        exact hE _ _ _ _ _ _ _ _ _ _ _

end Go.Proofs.YtlmdpcaikhdenaaGreat
/- Disk: plain: a stop as the program reckons it is a stop as the model says it. -/
namespace Go.Proofs.YtlmdpcaikhdenaaGreat
open Go.RowKit Go.Maps

/-- a region that ends as it should, and how it ends: walked apart, so a round's end is walked once -/
def onlyN (K : Act → World → Prop) : Exit → Act → World → Prop
  | .normal, a, w => K a w
  | _, _, _ => False
theorem wp_onlyN {P : Program} {c : Code} {Q : Exit → Act → World → Prop} {a : Act} {w : World} (K : Act → World → Prop) (h : c.wp P (onlyN K) a w) (hk : ∀ a w, K a w → Q .normal a w) : c.wp P Q a w :=
  wp_mono h fun e a w h => by cases e <;> first | exact hk _ _ h | exact h.elim

/-- is the write x, the k-th, kept? -/
def isK (l : NL) (keep : List Bool) (x : Wr) (k : Nat) : Bool := leadsTo l x.file && keep.getD k false
theorem keptW_succ {s : DSt} {l : NL} {keep : List Bool} {i : Nat} {x : Wr} (hx : s.writes[i]? = some x) : keptW s l keep (i + 1) = keptW s l keep i ++ (if isK l keep x i then [x] else []) := by
  unfold keptW isK
  have hz : s.writes.zipIdx[i]? = some (x, i) := by simp [hx]
  rw [List.take_add_one, hz, List.filter_append, List.map_append]
  congr 1
  simp only [Option.toList_some, List.filter_cons, List.filter_nil]
  split <;> simp_all
theorem keptW_pre (s : DSt) (l : NL) (keep : List Bool) {i j : Nat} (h : i ≤ j) : ∃ r, keptW s l keep j = keptW s l keep i ++ r := by
  induction j with
  | zero => obtain rfl : i = 0 := by omega
            exact ⟨[], by simp⟩
  | succ j ih =>
    by_cases hij : i = j + 1
    · subst hij; exact ⟨[], by simp⟩
    · obtain ⟨r, hr⟩ := ih (by omega)
      cases hx : s.writes[j]? with
      | none =>
        refine ⟨r, ?_⟩
        rw [← hr]; unfold keptW
        have : s.writes.length ≤ j := by simpa using hx
        rw [List.take_of_length_le (by simp; omega), List.take_of_length_le (by simp; omega)]
      | some x => rw [keptW_succ hx, hr]; exact ⟨_, List.append_assoc _ _ _⟩
theorem keptW_get {s : DSt} {l : NL} {keep : List Bool} {i j : Nat} {x : Wr} (hx : s.writes[i]? = some x) (hk : isK l keep x i = true) (hij : i < j) : (keptW s l keep j)[(keptW s l keep i).length]? = some x := by
  obtain ⟨r, hr⟩ := keptW_pre s l keep (i := i + 1) (j := j) (by omega)
  rw [hr, keptW_succ hx, hk]
  simp
theorem keptAt_eq {s : DSt} {l : NL} {keep : List Bool} {k : Nat} {x : Wr} (hx : s.writes[k]? = some x) : keptAt s l keep k = isK l keep x k := by
  unfold keptAt isK; rw [hx, Bool.and_comm]
theorem keptW_lt {s : DSt} {l : NL} {keep : List Bool} {i j : Nat} {x : Wr} (hx : s.writes[i]? = some x) (hk : isK l keep x i = true) (hij : i < j) : (keptW s l keep i).length < (keptW s l keep j).length := by
  have := keptW_get hx hk hij
  exact (List.getElem?_eq_some_iff.1 this).1

/-- the last in the one reckoning and in the other -/
def SameLast (s : DSt) (l : NL) (keep : List Bool) : Option Nat → Option Nat → Prop
  | none, none => True
  | some j, some k => (keptW s l keep k).length = j ∧ ∃ x, s.writes[k]? = some x ∧ isK l keep x k = true
  | _, _ => False
theorem lastW_congr {K K' : List Wr} : ∀ n : Nat, (∀ k, k < n → K[k]? = K'[k]?) → lastW K n = lastW K' n
  | 0, _ => rfl
  | n + 1, h => by
    unfold lastW
    rw [h n (by omega), lastW_congr n (fun k hk => h k (by omega))]
theorem same_last (s : DSt) (l : NL) (keep : List Bool) : ∀ i, i ≤ s.writes.length → SameLast s l keep (lastW (keptW s l keep i) (keptW s l keep i).length) (lastKept s l keep i)
  | 0, _ => by simp [keptW, lastW, lastKept, SameLast]
  | i + 1, hi => by
    have ih := same_last s l keep i (by omega)
    obtain ⟨x, hx⟩ : ∃ x, s.writes[i]? = some x := ⟨s.writes[i]'(by omega), by simp⟩
    unfold lastKept
    rw [keptAt_eq hx, keptW_succ hx, hx]
    simp only []
    cases hk : isK l keep x i
    · simp only [Bool.false_and, Bool.false_eq_true, if_false, List.append_nil]; exact ih
    · simp only [if_true, Bool.true_and, List.length_append, List.length_cons, List.length_nil]
      unfold lastW
      have hg : (keptW s l keep i ++ [x])[(keptW s l keep i).length]? = some x := by simp
      simp only [hg, Option.map_some, Option.getD_some]
      cases hc : x.cut
      · simp only [Bool.false_eq_true, if_false, Bool.not_false, if_true]
        exact ⟨rfl, x, hx, hk⟩
      · simp only [if_true, Bool.not_true, Bool.false_eq_true, if_false]
        rw [lastW_congr (K' := keptW s l keep i) _ (fun k hk => by rw [List.getElem?_append_left hk])]
        exact ih
theorem size_laid {s : DSt} {l : NL} {keep : List Bool} {a b : Option Nat} (h : SameLast s l keep a b) {i : Nat} {x : Wr} (hx : s.writes[i]? = some x) (hk : isK l keep x i = true) (torn : Int) : sizeW a torn (keptW s l keep i).length x = laidOf b torn i x := by
  have hiff : a = some (keptW s l keep i).length ↔ b = some i := by
    cases a <;> cases b <;> simp only [SameLast] at h
    · simp
    · rename_i j k
      obtain ⟨h1, y, hy, hyk⟩ := h
      simp only [Option.some.injEq]
      constructor
      · intro e
        rcases Nat.lt_trichotomy k i with hlt | heq | hgt
        · have := keptW_lt hy hyk hlt; omega
        · exact heq
        · have := keptW_lt hx hk hgt; omega
      · rintro rfl; omega
  unfold sizeW laidOf
  by_cases h1 : b = some i
  · have h2 := hiff.2 h1
    by_cases h3 : 0 ≤ torn
    · by_cases h4 : torn < x.data.length
      · rw [if_pos ⟨h2, h3⟩, if_pos ⟨h1, h3, h4⟩]; omega
      · rw [if_pos ⟨h2, h3⟩, if_neg (fun h => h4 h.2.2)]; omega
    · rw [if_neg (fun h => h3 h.2), if_neg (fun h => h3 h.2.1)]
  · rw [if_neg (fun h => h1 (hiff.1 h.1)), if_neg (fun h => h1 h.1)]
theorem data_is {s : DSt} {l : NL} {keep : List Bool} (torn : Int) {f : Nat} (hf : leadsTo l f = true) : ∀ i, i ≤ s.writes.length →
    dataW s (keptW s l keep s.writes.length) (lastW (keptW s l keep s.writes.length) (keptW s l keep s.writes.length).length) torn (keptW s l keep i).length f = stopFile s keep (lastKept s l keep s.writes.length) torn f i
  | 0, _ => by simp [keptW, dataW, stopFile]
  | i + 1, hi => by
    have ih := data_is (s := s) torn hf (keep := keep) i (by omega)
    obtain ⟨x, hx⟩ : ∃ x, s.writes[i]? = some x := ⟨s.writes[i]'(by omega), by simp⟩
    have hlen := congrArg List.length (keptW_succ (l := l) (keep := keep) hx)
    unfold stopFile
    simp only [hx]
    rw [hlen]
    cases hk : isK l keep x i
    · simp only [Bool.false_eq_true, if_false, List.append_nil]
      rw [ih]
      have hne : (keep.getD i false && x.file == f) = false := by
        unfold isK at hk
        cases hkk : keep.getD i false
        · rfl
        · rw [hkk, Bool.and_true] at hk
          cases hxf : x.file == f
          · rfl
          · rw [beq_iff_eq] at hxf; subst hxf; rw [hf] at hk; cases hk
      rw [hne]
      rfl
    · simp only [if_true, List.length_append, List.length_cons, List.length_nil]
      have hkk : keep.getD i false = true := by unfold isK at hk; simp at hk; simpa using hk.2
      rw [show (keptW s l keep i).length + (0 + 1) = (keptW s l keep i).length + 1 from rfl]
      conv => lhs; unfold dataW
      rw [keptW_get (j := s.writes.length) hx hk (by omega)]
      simp only []
      rw [size_laid (same_last s l keep s.writes.length (Nat.le_refl _)) hx hk, ih, hkk]
      by_cases hxf : x.file = f
      · simp [hxf]
      · have : (x.file == f) = false := by simpa using hxf
        simp [hxf]

/-- the files behind a stop, as the program reckons them -/
theorem stop_is (s : DSt) (names : Int) (keep : List Bool) (torn : Int) :
    s.stop names keep torn = DSt.ofFiles s.room ((stopNames s names).map fun p => (p.1, dataW s (keptW s (stopNames s names) keep s.writes.length) (lastW (keptW s (stopNames s names) keep s.writes.length) (keptW s (stopNames s names) keep s.writes.length).length) torn (keptW s (stopNames s names) keep s.writes.length).length p.2)) := by
  unfold DSt.stop
  simp only []
  congr 1
  refine List.map_congr_left fun p hp => ?_
  rw [data_is torn (by unfold leadsTo; rw [List.any_eq_true]; exact ⟨p, hp, by simp⟩) _ (Nat.le_refl _)]

end Go.Proofs.YtlmdpcaikhdenaaGreat
/- Disk: Stop: the fifth loop: the kept writes are laid. -/
namespace Go.Proofs.YtlmdpcaikhdenaaGreat
open Go.RowKit Go.Maps Go.Shelf
attribute [local go_sem] run_store_func

/-- the blocks of bytes: those of the disk, and new ones -/
def RB (R : Nat → Prop) (w0 w : World) : Nat → Prop := fun b => R b ∨ (w0.heap.size ≤ b ∧ b < w.heap.size)

set_option maxRecDepth 1000000 in
set_option maxHeartbeats 8000000 in
theorem stop_loop5 {w w0 : World} {p : Nat} {s : DSt} {R : Nat → Prop} (hR : ∀ b, R b → b < w.heap.size) {L : NL}
    {bs ml md nd : Nat} {names torn : Int} (htorn : torn < 9223372036854775808) {ka : Option Addr} {kl kc : Nat} {last : Option Nat} {v : Value} {kp : List (Wv × Wr)} (hlast : ∀ k, last = some k → k < 4194304)
    (h1 : w.heap.size ≤ md) (_h2 : w.heap.size ≤ ml) (_h3 : w.heap.size ≤ bs) (h4 : md ≠ bs) (h5 : md ≠ ml) (h6 : v.ownBlock ≠ some md) (hb0 : Below w.heap.size w w0)
    (hbs : w0.heap[bs]? = some (.cells #[.int .i64 names, .slice ka kl kc, .int .i64 torn] 38 (0, 0))) (hm0 : w0.ownsMap Tryz.prog 9 (plainElem Tryz.prog 3) ml L.length (nameD L))
    {g0 : Nat → Option Value} (hd0 : DatMap w0 md nd g0) (hg1 : ∀ f, (g0 f).isSome = leadsTo L f) (hg2 : ∀ f u, g0 f = some u → BytesIn w0 R u (s.lasts f)) (hnd : nd ≤ 8388608)
    (hls : ∀ f, (s.lasts f).length ≤ maxFile) (hkw : ∀ q ∈ kp, q.1.1 = q.2.file ∧ WrIn w R (encW q.1) q.2 ∧ leadsTo L q.2.file = true ∧ q.2.place + q.2.data.length ≤ maxFile) (hkn : kp.length ≤ maxList) (hfl : ∀ q ∈ kp, q.2.file < maxList)
    (hv : KeptV w0 v (kp.map (·.1)))
    {Q0 : Exit → Act → World → Prop} (c1 c2 c6 c7 c9 c10 c12 c13 c14 c15 c20 c21 c22 c23 c24 c25 c26 c27 c28 c29 c30 c31 c32 c33 c34 c35 c36 c37 c38 c39 c40 c41 c42 c43 c44 c45 c46 c47 c48 c49 c50 c51 c52 c53 c54 c55 c56 c57 c58 c59 c60 c61 c62 c63 c64 c65 c66 c67 c68 c69 c70 c71 c72 c73 c74 c75 c76 c77 c78 c79 c80 c81 c82 c83 c84 c85 c86 c87 c88 c89 c90 c91 c92 c93 c94 c95 c96 c97 c98 c99 c100 c101 c102 c103 c104 c105 c106 c107 c108 c109 c110 c111 c112 c113 c114 c115 c116 c117 c118 c119 c120 c121 c122 c123 c124 c125 c159 c160 c161 c162 c163 c164 c165 c166 c167 c168 c169 c170 c171 c172 c173 c174 c175 c176 c177 c178 c179 c180 c181 c182 c183 c184 c185 c186 c187 c188 c189 c190 c191 c192 c193 c194 c195 c196 c197 c198 c199 c200 c201 c202 c203 c204 c205 c206 c207 c208 c209 c210 c211 c212 u17 u18 u19 u129 u130 u131 u132 u133 u134 u135 u136 u137 u138 u139 u140 u141 u142 u143 u144 u145 u146 u147 u148 u149 u150 u151 u152 u153 u154 u155 u156 u157 u158 : Value)
    (hexit : ∀ (u17 u18 u19 u128 u129 u130 u131 u132 u133 u134 u135 u136 u137 u138 u139 u140 u141 u142 u143 u144 u145 u146 u147 u148 u149 u150 u151 u152 u153 u154 u155 u156 u157 u158 : Value) (w' : World) (g : Nat → Option Value) (n' : Nat), Below w.heap.size w w' → w0.heap.size ≤ w'.heap.size → w'.ownsMap Tryz.prog 9 (plainElem Tryz.prog 3) ml L.length (nameD L) → DatMap w' md n' g → n' ≤ 16777216 → (∀ f, (g f).isSome = leadsTo L f) → (∀ f u, g f = some u → BytesIn w' (RB R w0 w') u (dataW s (kp.map (·.2)) last torn kp.length f)) →
      Q0 (.exit 8) ⟨(.pointer (some ⟨p, 0, none⟩) :: c1 :: c2 :: .pointer (some ⟨bs, 0, none⟩) :: .pointer none :: .map (some ml) :: c6 :: c7 :: .map (some md) :: c9 :: c10 :: v :: c12 :: c13 :: c14 :: c15 :: .int .i64 (lastI last) :: u17 :: u18 :: u19 :: c20 :: c21 :: c22 :: c23 :: c24 :: c25 :: c26 :: c27 :: c28 :: c29 :: c30 :: c31 :: c32 :: c33 :: c34 :: c35 :: c36 :: c37 :: c38 :: c39 :: c40 :: c41 :: c42 :: c43 :: c44 :: c45 :: c46 :: c47 :: c48 :: c49 :: c50 :: c51 :: c52 :: c53 :: c54 :: c55 :: c56 :: c57 :: c58 :: c59 :: c60 :: c61 :: c62 :: c63 :: c64 :: c65 :: c66 :: c67 :: c68 :: c69 :: c70 :: c71 :: c72 :: c73 :: c74 :: c75 :: c76 :: c77 :: c78 :: c79 :: c80 :: c81 :: c82 :: c83 :: c84 :: c85 :: c86 :: c87 :: c88 :: c89 :: c90 :: c91 :: c92 :: c93 :: c94 :: c95 :: c96 :: c97 :: c98 :: c99 :: c100 :: c101 :: c102 :: c103 :: c104 :: c105 :: c106 :: c107 :: c108 :: c109 :: c110 :: c111 :: c112 :: c113 :: c114 :: c115 :: c116 :: c117 :: c118 :: c119 :: c120 :: c121 :: c122 :: c123 :: c124 :: c125 :: v :: .int .i64 (kp.length : Int) :: u128 :: u129 :: u130 :: u131 :: u132 :: u133 :: u134 :: u135 :: u136 :: u137 :: u138 :: u139 :: u140 :: u141 :: u142 :: u143 :: u144 :: u145 :: u146 :: u147 :: u148 :: u149 :: u150 :: u151 :: u152 :: u153 :: u154 :: u155 :: u156 :: u157 :: u158 :: c159 :: c160 :: c161 :: c162 :: c163 :: c164 :: c165 :: c166 :: c167 :: c168 :: c169 :: c170 :: c171 :: c172 :: c173 :: c174 :: c175 :: c176 :: c177 :: c178 :: c179 :: c180 :: c181 :: c182 :: c183 :: c184 :: c185 :: c186 :: c187 :: c188 :: c189 :: c190 :: c191 :: c192 :: c193 :: c194 :: c195 :: c196 :: c197 :: c198 :: c199 :: c200 :: c201 :: c202 :: c203 :: c204 :: c205 :: c206 :: c207 :: c208 :: c209 :: c210 :: c211 :: c212 :: ([] : List Value)).toArray, []⟩ w') :
    Code.wp Tryz.prog (Code.loop (stopLoop 4)) Q0 ⟨(.pointer (some ⟨p, 0, none⟩) :: c1 :: c2 :: .pointer (some ⟨bs, 0, none⟩) :: .pointer none :: .map (some ml) :: c6 :: c7 :: .map (some md) :: c9 :: c10 :: v :: c12 :: c13 :: c14 :: c15 :: .int .i64 (lastI last) :: u17 :: u18 :: u19 :: c20 :: c21 :: c22 :: c23 :: c24 :: c25 :: c26 :: c27 :: c28 :: c29 :: c30 :: c31 :: c32 :: c33 :: c34 :: c35 :: c36 :: c37 :: c38 :: c39 :: c40 :: c41 :: c42 :: c43 :: c44 :: c45 :: c46 :: c47 :: c48 :: c49 :: c50 :: c51 :: c52 :: c53 :: c54 :: c55 :: c56 :: c57 :: c58 :: c59 :: c60 :: c61 :: c62 :: c63 :: c64 :: c65 :: c66 :: c67 :: c68 :: c69 :: c70 :: c71 :: c72 :: c73 :: c74 :: c75 :: c76 :: c77 :: c78 :: c79 :: c80 :: c81 :: c82 :: c83 :: c84 :: c85 :: c86 :: c87 :: c88 :: c89 :: c90 :: c91 :: c92 :: c93 :: c94 :: c95 :: c96 :: c97 :: c98 :: c99 :: c100 :: c101 :: c102 :: c103 :: c104 :: c105 :: c106 :: c107 :: c108 :: c109 :: c110 :: c111 :: c112 :: c113 :: c114 :: c115 :: c116 :: c117 :: c118 :: c119 :: c120 :: c121 :: c122 :: c123 :: c124 :: c125 :: v :: .int .i64 (kp.length : Int) :: .int .i64 0 :: u129 :: u130 :: u131 :: u132 :: u133 :: u134 :: u135 :: u136 :: u137 :: u138 :: u139 :: u140 :: u141 :: u142 :: u143 :: u144 :: u145 :: u146 :: u147 :: u148 :: u149 :: u150 :: u151 :: u152 :: u153 :: u154 :: u155 :: u156 :: u157 :: u158 :: c159 :: c160 :: c161 :: c162 :: c163 :: c164 :: c165 :: c166 :: c167 :: c168 :: c169 :: c170 :: c171 :: c172 :: c173 :: c174 :: c175 :: c176 :: c177 :: c178 :: c179 :: c180 :: c181 :: c182 :: c183 :: c184 :: c185 :: c186 :: c187 :: c188 :: c189 :: c190 :: c191 :: c192 :: c193 :: c194 :: c195 :: c196 :: c197 :: c198 :: c199 :: c200 :: c201 :: c202 :: c203 :: c204 :: c205 :: c206 :: c207 :: c208 :: c209 :: c210 :: c211 :: c212 :: ([] : List Value)).toArray, []⟩ w0 := by
  have hmx : maxList = 4194304 := rfl
  have hmfl : maxFile = 1099511627776 := rfl
  have hmax : maxLen = 9223372036854775807 := rfl
  obtain ⟨va, vc, rfl, hat0⟩ := hv
  rw [List.length_map] at *
  conv => arg 2; arg 1; whnf
  go_loopw [128] (fun i wr => ∃ (k : Nat) (g : Nat → Option Value), k ≤ kp.length ∧ i = .int .i64 k ∧ w0.heap.size ≤ wr.heap.size ∧ Below w.heap.size w wr ∧ Chg (· = md) w0 wr ∧ DatMap wr md (nd + k) g ∧ (∀ f, (g f).isSome = leadsTo L f) ∧ (∀ f u, g f = some u → BytesIn wr (RB R w0 wr) u (dataW s (kp.map (·.2)) last torn k f))) (fun i _ => kp.length - (RowKit.intOf i).toNat)
  case atStart => exact ⟨0, g0, by omega, rfl, Nat.le_refl _, hb0, Chg.refl _ _, hd0, hg1, fun f u hu => (hg2 f u hu).mono (fun b hb => .inl hb)⟩
  case round =>
    obtain ⟨k, g, hk, rfl, hsz0, hb, hc0, hg, hgs, hgb⟩ := hrel
    by_cases hlt : k < kp.length
    · obtain ⟨q, hq⟩ : ∃ q, kp[k]? = some q := ⟨kp[k]'(by omega), by simp⟩
      obtain ⟨gw, cur, tt, rfl, hgw0, hcu⟩ := hat0 k q.1 (by simp [hq])
      have hgwr := hc0.obj hgw0 (fun e => h6 (by rw [e]; rfl))
      obtain ⟨hqf, hqw, hql, hqp⟩ := hkw q (List.mem_of_getElem? hq)
      have hqfl := hfl q (List.mem_of_getElem? hq)
      have hstep : ∀ f, dataW s (kp.map (·.2)) last torn (k + 1) f = if q.2.file = f then laid (dataW s (kp.map (·.2)) last torn k f) q.2 (sizeW last torn k q.2) else dataW s (kp.map (·.2)) last torn k f := fun f => by
        simp [dataW, hq]
      have hdl := dataW_len (s := s) (K := kp.map (·.2)) (last := last) (torn := torn) (m := maxFile) hls (fun x hx => by obtain ⟨y, hy, rfl⟩ := List.mem_map.1 hx; exact (hkw y hy).2.2.2) k
      obtain ⟨⟨xf, xs, xc, xF, xC⟩, y⟩ := q
      simp only at hqf hqw hql hqp hqfl hstep hcu
      subst hqf
      obtain ⟨fn, hfn, hlay⟩ := hqw
      obtain ⟨rfl, rfl, rfl⟩ : xs = y.data.length ∧ xc = y.cut ∧ Value.func (.func xF) #[] xC = fn := by
        unfold encW at hfn
        simp at hfn
        exact ⟨by omega, hfn.2.1, hfn.2.2⟩
      have q0 := cell_of_heap hgwr (i := k * 4) (v := .int .i64 (y.file : Int)) (by have := hcu 0 _ rfl; simpa using this)
      have q1 := cell_of_heap hgwr (i := k * 4 + 1) (v := .int .i64 (y.data.length : Int)) (by have := hcu 1 _ rfl; simpa using this)
      have q2 := cell_of_heap hgwr (i := k * 4 + 2) (v := .bool y.cut) (by have := hcu 2 _ rfl; simpa using this)
      have q3 := cell_of_heap hgwr (i := k * 4 + 3) (v := .func (.func xF) #[] xC) (by have := hcu 3 _ rfl; simpa using this)
      have j0 : (0 : Int) ≤ (k : Int) := by omega
      have j1 : (k : Int) < (kp.length : Int) := by omega
      obtain ⟨W2, hW2⟩ : ∃ W2, wr.alloc (.cells #[.int .i64 (y.file : Int), .int .i64 (y.data.length : Int), .bool y.cut, .func (.func xF) #[] xC] 125) = W2 := ⟨_, rfl⟩
      have hc2 : Chg (fun _ => False) wr W2 := by rw [← hW2]; exact Chg.alloc _ _ _
      have hbw : W2.heap[wr.heap.size]? = some (.cells #[.int .i64 (y.file : Int), .int .i64 (y.data.length : Int), .bool y.cut, .func (.func xF) #[] xC] 125 (0, 0)) := by rw [← hW2]; exact World.alloc_heap_new wr _
      have hz2' : W2.heap.size = wr.heap.size + 1 := by rw [← hW2]; simp
      have d0 := cell_of_heap hbw (i := 0) (v := .int .i64 (y.file : Int)) (by rfl)
      have d1 := cell_of_heap hbw (i := 1) (v := .int .i64 (y.data.length : Int)) (by rfl)
      have d2 := cell_of_heap hbw (i := 2) (v := .bool y.cut) (by rfl)
      have d3 := cell_of_heap hbw (i := 3) (v := .func (.func xF) #[] xC) (by rfl)
      have hb2 : Below w.heap.size w W2 := hb.trans ⟨hc2.os, hc2.tape, hc2.output, hc2.size, fun y hy => hc2.block y (by have := hb.size; omega) (fun h => h)⟩
      have hbs2 := hc2.obj (hc0.obj hbs (fun e => h4 e.symm)) (fun h => h)
      have b2 := cell_of_heap hbs2 (i := 2) (v := .int .i64 torn) (by rfl)
      have hg' := hg.of_chg hc2 (fun h => h)
      obtain ⟨u, hu⟩ := Option.isSome_iff_exists.1 ((hgs y.file).trans hql)
      have hub := (hgb y.file u hu).kept hc2 (fun _ _ h => h) (fun _ h => h)
      obtain ⟨ua, uc, rfl, _⟩ := hub.row
      have hlk : ∀ q, (Instr.lookup 119 (.map (some md)) (.int .i64 (y.file : Int)) false).run Tryz.prog (W2.drewN q) = .ok (.slice ua (dataW s (kp.map (·.2)) last torn k y.file).length uc) (W2.drewN q) := fun q => DatMap.look (W := W2.drewN q) (hg'.of_chg ((Chg.refl (fun _ => False) W2).drewN q) (fun h => h)) (by omega) hu
      have hlk2 : (Instr.lookup 119 (.map (some md)) (.int .i64 (y.file : Int)) false).run Tryz.prog W2.drew = .ok (.slice ua (dataW s (kp.map (·.2)) last torn k y.file).length uc) W2.drew := hlk 1
      have hlay2 := (hlay.kept (R' := RB R w0 wr) (Chg.of_below (O := fun _ => False) hb2) (fun _ _ h => h) (fun _ h => .inl h)).kept ((Chg.refl (fun _ => False) W2).drew) (fun _ _ h => h) (fun _ h => h)
      have hub2 := hub.kept ((Chg.refl (fun _ => False) W2).drew) (fun _ _ h => h) (fun _ h => h)
      have hRl : ∀ b, RB R w0 wr b → b < W2.drew.heap.size := by
        have e1 : W2.drew.heap.size = W2.heap.size := rfl
        have := hb.size
        rintro b (hb | hb)
        · have := hR b hb; omega
        · omega
      have hlays := fun n hn => wr_lays hlay2 hub2 (n := n) (hdl y.file) hqp hn hRl
      have hgd := hg'.of_chg ((Chg.refl (fun _ => False) W2).drew) (fun h => h)
      have hmdl := hd0.lt
      have dd0 : W2.drew.cell? ⟨wr.heap.size, 0, none⟩ = some (.int .i64 (y.file : Int)) := d0
      have hwl : wr.heap.size < W2.drew.heap.size := heap_lt hbw
      have hw2 : W2.drew.heap.size = wr.heap.size + 1 := hz2'
      have hEQ : ∀ w4 w5 n ua' uc', sizeW last torn k y = n → BytesIn w4 (fun b => RB R w0 wr b ∨ NewIn W2.drew w4 b) (.slice ua' (laid (dataW s (kp.map (·.2)) last torn k y.file) y n).length uc') (laid (dataW s (kp.map (·.2)) last torn k y.file) y n) → Below W2.drew.heap.size W2.drew w4 → DatMap w5 md (nd + k + 1) (fun x => if x = y.file then some (.slice ua' (laid (dataW s (kp.map (·.2)) last torn k y.file) y n).length uc') else g x) → Chg (· = md) w4 w5 →
          ∃ (k' : Nat) (g : Nat → Option Value), k' ≤ kp.length ∧ (.int .i64 ((k : Int) + 1) : Value) = .int .i64 k' ∧ w0.heap.size ≤ w5.heap.size ∧ Below w.heap.size w w5 ∧ Chg (· = md) w0 w5 ∧ DatMap w5 md (nd + k') g ∧ (∀ f, (g f).isSome = leadsTo L f) ∧ (∀ f u, g f = some u → BytesIn w5 (RB R w0 w5) u (dataW s (kp.map (·.2)) last torn k' f)) := by
        intro w4 w5 n ua' uc' hn hu4 hb4 hg5 hc5
        have hcA : Chg (· = md) wr w4 := ((hc2.mono (O' := (· = md)) (fun _ h _ => h.elim)).trans ((Chg.refl (· = md) W2).drew) (fun _ h _ => h)).trans (Chg.of_below (O := (· = md)) hb4) (fun _ h _ => h)
        have hcB : Chg (· = md) wr w5 := hcA.trans hc5 (fun _ h _ => h)
        have hs4 := hb4.size
        have hs5 := hc5.size
        refine ⟨k + 1, _, by omega, by go_num, Nat.le_trans hsz0 hcB.size, hb.trans ⟨hcB.os, hcB.tape, hcB.output, hcB.size, fun x hx => hcB.block x (by have := hb.size; omega) (by have := hb.size; omega)⟩, hc0.trans hcB (fun _ h _ => h), hg5, fun f => ?_, fun f u hfu => ?_⟩
        · by_cases hf : f = y.file
          · subst hf; simp [hql]
          · simp [hf, hgs]
        · rw [hstep, hn]
          by_cases hf : f = y.file
          · subst hf
            simp at hfu
            subst hfu
            simp only [if_true]
            refine (hu4.kept (R' := RB R w0 w5) hc5 ?_ ?_)
            · rintro b ((hb' | hb') | hb')
              · have := hR b hb'; omega
              · omega
              · have := hb'.1; omega
            · rintro b ((hb' | hb') | hb')
              · exact .inl hb'
              · exact .inr ⟨hb'.1, by omega⟩
              · exact .inr ⟨by have := hb'.1; omega, by have := hb'.2; omega⟩
          · simp [hf] at hfu
            rw [if_neg (fun e => hf e.symm)]
            refine (hgb f u hfu).kept hcB ?_ ?_
            · rintro b (hb' | hb')
              · have := hR b hb'; omega
              · omega
            · rintro b (hb' | hb')
              · exact .inl hb'
              · exact .inr ⟨hb'.1, by have := hcB.size; omega⟩
      have HEQ := Lib.hid hEQ; clear hEQ
      clear hstep hcu hgs hgb hg' hub hub2 hlay hlay2 hdl hkw hfl hls hg1 hg2 hat0 hlk
      have hki : ((k : Int) == lastI last) = decide (last = some k) := by
        cases last with
        | none => simp [lastI]
        | some m => simp [lastI]; rw [Bool.eq_iff_iff]; simp; omega
      have HSZ := Lib.hid hz2'; clear hz2'
      have HW2 := Lib.hid hw2; clear hw2
      obtain ⟨n, hn⟩ : ∃ n, sizeW last torn k y = n := ⟨_, rfl⟩
      have hn3 : n ≤ y.data.length := by rw [← hn]; exact sizeW_le _ _ _ _
      have HN := Lib.hid hn; clear hn
      obtain ⟨tb, htb⟩ : ∃ tb, (decide (last = some k) && decide (0 ≤ torn)) = tb := ⟨_, rfl⟩
      go_upto_region 29 with fail
      go_cut [17, 18, 19, 128, 142] from 128 to 158 (fun s17 s18 s19 s128 s142 wx => s17 = .int .i64 (k : Int) ∧ s18 = .pointer (some ⟨wr.heap.size, 0, none⟩) ∧ s19 = .int .i64 (y.data.length : Int) ∧ s128 = .int .i64 (k : Int) ∧ s142 = .bool tb ∧ W2 = wx)
      case first =>
        by_cases hla : last = some k
        · rw [decide_eq_true hla] at hki htb
          by_cases hto : 0 ≤ torn
          · have hto' : decide (0 ≤ torn) = true := by simpa using hto
            rw [hto'] at htb
            clear hla
            subst htb
            go_wp2
            go_meet
            case rel => exact ⟨rfl, rfl, rfl, rfl, rfl, rfl⟩
          · have hto' : decide (0 ≤ torn) = false := by simpa using hto
            rw [hto'] at htb
            clear hla
            subst htb
            go_wp2
            go_meet
            case rel => exact ⟨rfl, rfl, rfl, rfl, rfl, rfl⟩
        · rw [decide_eq_false hla] at hki htb
          clear hla
          subst htb
          go_wp2
          go_meet
          case rel => exact ⟨rfl, rfl, rfl, rfl, rfl, rfl⟩
      case rest =>
      obtain ⟨h17, h18, h19, h128, h142, hwx⟩ := hcut
      subst h17 h18 h19 h128 h142 hwx
      have HTB := Lib.hid htb; clear htb hki
      go_upto_if 142 with fail
      go_cut [17, 18, 19, 128] from 128 to 158 (fun s17 s18 s19 s128 wx => s17 = .int .i64 (k : Int) ∧ s18 = .pointer (some ⟨wr.heap.size, 0, none⟩) ∧ s19 = .int .i64 (n : Int) ∧ s128 = .int .i64 (k : Int) ∧ W2 = wx)
      case first =>
        cases tb with
        | true =>
          have hn2 : min (y.data.length : Int) torn = (n : Int) := by
            have h1 := HTB.out
            simp only [Bool.and_eq_true, decide_eq_true_eq] at h1
            rw [← HN.out]; unfold sizeW; rw [if_pos h1]; omega
          go_wp2
          go_meet
          case rel => exact ⟨rfl, rfl, rfl, rfl, rfl⟩
        | false =>
          have hn1 : n = y.data.length := by
            have h1 := HTB.out
            rw [← HN.out]; unfold sizeW
            rw [if_neg (fun h => by rw [decide_eq_true h.1, decide_eq_true h.2] at h1; cases h1)]
          subst hn1
          go_wp2
          go_meet
          case rel => exact ⟨rfl, rfl, rfl, rfl, rfl⟩
      case rest =>
        obtain ⟨h17, h18, h19, h128, hwx⟩ := hcut
        subst h17 h18 h19 h128 hwx
        obtain ⟨N, caps, eN, henter, hcall⟩ := hlays n hn3
        obtain ⟨rfl, rfl⟩ : xF = N ∧ xC = caps := by simpa using eN
        unfold enters at henter
        go_wp2
        refine wp_onlyN (fun a w5 => ∀ Kc : Act → World → Prop, (∀ (u17 u18 u19 u129 u130 u131 u132 u133 u134 u135 u136 u137 u138 u139 u140 u141 u142 u143 u144 u145 u146 u147 u148 u149 u150 u151 u152 u153 u154 u155 u156 u157 u158 : Value), (∃ (k' : Nat) (g : Nat → Option Value), k' ≤ kp.length ∧ (.int .i64 ((k : Int) + 1) : Value) = .int .i64 k' ∧ w0.heap.size ≤ w5.heap.size ∧ Below w.heap.size w w5 ∧ Chg (· = md) w0 w5 ∧ DatMap w5 md (nd + k') g ∧ (∀ f, (g f).isSome = leadsTo L f) ∧ (∀ f u, g f = some u → BytesIn w5 (RB R w0 w5) u (dataW s (kp.map (·.2)) last torn k' f))) → Kc ⟨(.pointer (some ⟨p, 0, none⟩) :: c1 :: c2 :: .pointer (some ⟨bs, 0, none⟩) :: .pointer none :: .map (some ml) :: c6 :: c7 :: .map (some md) :: c9 :: c10 :: .slice (some ⟨gw, 0, none⟩) kp.length vc :: c12 :: c13 :: c14 :: c15 :: .int .i64 (lastI last) :: u17 :: u18 :: u19 :: c20 :: c21 :: c22 :: c23 :: c24 :: c25 :: c26 :: c27 :: c28 :: c29 :: c30 :: c31 :: c32 :: c33 :: c34 :: c35 :: c36 :: c37 :: c38 :: c39 :: c40 :: c41 :: c42 :: c43 :: c44 :: c45 :: c46 :: c47 :: c48 :: c49 :: c50 :: c51 :: c52 :: c53 :: c54 :: c55 :: c56 :: c57 :: c58 :: c59 :: c60 :: c61 :: c62 :: c63 :: c64 :: c65 :: c66 :: c67 :: c68 :: c69 :: c70 :: c71 :: c72 :: c73 :: c74 :: c75 :: c76 :: c77 :: c78 :: c79 :: c80 :: c81 :: c82 :: c83 :: c84 :: c85 :: c86 :: c87 :: c88 :: c89 :: c90 :: c91 :: c92 :: c93 :: c94 :: c95 :: c96 :: c97 :: c98 :: c99 :: c100 :: c101 :: c102 :: c103 :: c104 :: c105 :: c106 :: c107 :: c108 :: c109 :: c110 :: c111 :: c112 :: c113 :: c114 :: c115 :: c116 :: c117 :: c118 :: c119 :: c120 :: c121 :: c122 :: c123 :: c124 :: c125 :: .slice (some ⟨gw, 0, none⟩) kp.length vc :: .int .i64 (kp.length : Int) :: .int .i64 (k : Int) :: u129 :: u130 :: u131 :: u132 :: u133 :: u134 :: u135 :: u136 :: u137 :: u138 :: u139 :: u140 :: u141 :: u142 :: u143 :: u144 :: u145 :: u146 :: u147 :: u148 :: u149 :: u150 :: u151 :: u152 :: u153 :: u154 :: u155 :: u156 :: u157 :: u158 :: c159 :: c160 :: c161 :: c162 :: c163 :: c164 :: c165 :: c166 :: c167 :: c168 :: c169 :: c170 :: c171 :: c172 :: c173 :: c174 :: c175 :: c176 :: c177 :: c178 :: c179 :: c180 :: c181 :: c182 :: c183 :: c184 :: c185 :: c186 :: c187 :: c188 :: c189 :: c190 :: c191 :: c192 :: c193 :: c194 :: c195 :: c196 :: c197 :: c198 :: c199 :: c200 :: c201 :: c202 :: c203 :: c204 :: c205 :: c206 :: c207 :: c208 :: c209 :: c210 :: c211 :: c212 :: ([] : List Value)).toArray, []⟩ w5) → Kc a w5) ?_ (fun a w5 h5 => h5 _ (fun u17 u18 u19 u129 u130 u131 u132 u133 u134 u135 u136 u137 u138 u139 u140 u141 u142 u143 u144 u145 u146 u147 u148 u149 u150 u151 u152 u153 u154 u155 u156 u157 u158 hrel5 => ?_))
        · go_region_law (first | (go_simp; refine hcall.mono ?_; rintro _ w4 ⟨u4, rfl, hu4, hb4⟩; obtain ⟨ua4, uc4, rfl, _⟩ := hu4.row; obtain ⟨y4, hy4⟩ := hu4.elem; have f4 := (hb4.cell (p := ⟨wr.heap.size, 0, none⟩) hwl).trans dd0; obtain ⟨w5, hst, hg5, hc5⟩ := (hgd.of_chg (Chg.of_below (O := fun _ => False) hb4) (fun h => h)).store (by omega) (f := y.file) (by omega) hy4))
          all_goals exact fun Kc hKc => hKc _ _ _ _ _ _ _ _ _ _ _ _ _ _ _ _ _ _ _ _ _ _ _ _ _ _ _ _ _ _ _ _ _ (HEQ.out _ _ _ _ _ HN.out hu4 hb4 hg5 hc5)
        · clear HEQ HN hbs2 q0 q1 q2 q3
          go_wp2
          go_roundw
          case rel => exact hrel5
          case measure => simp [RowKit.intOf]; omega
    · obtain rfl : k = kp.length := by omega
      go_wp2
      exact hexit _ _ _ _ _ _ _ _ _ _ _ _ _ _ _ _ _ _ _ _ _ _ _ _ _ _ _ _ _ _ _ _ _ _ wr g _ hb hsz0 (hc0.map hm0 (fun e => h5 e.symm)) hg (by omega) hgs hgb

end Go.Proofs.YtlmdpcaikhdenaaGreat
