/- Disk: Stop: the fourth loop: the last kept write that is no cut. -/
import Derived.Test.YtgckcnnnblggbaaDkZ
namespace Go.Proofs.Ytgckcnnnblggbaa
open Go.RowKit Go.Maps Go.Shelf

theorem laid_len (b : List UInt8) (x : Wr) {n m : Nat} (hn : n ≤ x.data.length) (hb : b.length ≤ m) (hx : x.place + x.data.length ≤ m) : (laid b x n).length ≤ m := by
  unfold laid
  split
  · simp; omega
  · split
    · exact hb
    · simp; omega
theorem sizeW_le (last : Option Nat) (torn : Int) (i : Nat) (x : Wr) : sizeW last torn i x ≤ x.data.length := by
  unfold sizeW; split <;> omega
theorem dataW_len {s : DSt} {K : List Wr} {last : Option Nat} {torn : Int} {m : Nat} (h0 : ∀ f, (s.lasts f).length ≤ m) (hK : ∀ x ∈ K, x.place + x.data.length ≤ m) : ∀ i f, (dataW s K last torn i f).length ≤ m
  | 0, f => h0 f
  | i + 1, f => by
    have ih := dataW_len (last := last) (torn := torn) h0 hK i f
    unfold dataW
    split
    · rename_i x hx
      split
      · exact laid_len _ _ (sizeW_le _ _ _ _) ih (hK x (List.mem_of_getElem? hx))
      · exact ih
    · exact ih
/-- the writes that are kept, as they lie -/
def KeptV (w : World) (v : Value) (K : List Wv) : Prop := ∃ a cap, v = .slice a K.length cap ∧ ∀ (k : Nat) x, K[k]? = some x → ∃ g cur t, a = some ⟨g, 0, none⟩ ∧ w.heap[g]? = some (.cells cur t (0, 0)) ∧ ∀ c u, (encW x)[c]? = some u → cur.toList[k * 4 + c]? = some u
theorem KeptV.of_owns {w : World} {base : Nat} {v : Value} {K : List Wv} (h : w.ownsRow base 83 4 v K.length (K.map encW).flatten) : KeptV w v K := by
  rcases h.2 with ⟨hv, hz⟩ | ⟨gw, cap, cur, hv, _, hgw, _, _, _, ht⟩
  · subst hv
    obtain rfl := List.length_eq_zero_iff.1 hz
    exact ⟨none, 0, rfl, fun k x hx => by cases hx⟩
  · refine ⟨_, cap, hv, fun k x hx => ⟨gw, cur, _, rfl, hgw, fun c u hu => ?_⟩⟩
    have := cells_of_flat K cur.toList ht k x hx c u hu
    simpa using this
theorem KeptV.kept {O : Nat → Prop} {w w' : World} {v : Value} {K : List Wv} (h : KeptV w v K) (hc : Chg O w w') (hO : ∀ k, v.ownBlock = some k → ¬ O k) : KeptV w' v K := by
  obtain ⟨a, cap, rfl, h⟩ := h
  refine ⟨a, cap, rfl, fun k x hx => ?_⟩
  obtain ⟨g, cur, t, rfl, hg, hcu⟩ := h k x hx
  exact ⟨g, cur, t, rfl, hc.obj hg (hO g rfl), hcu⟩
def lastI : Option Nat → Int
  | some k => (k : Int)
  | none => -1

set_option maxRecDepth 1000000 in
set_option maxHeartbeats 4000000 in
theorem stop_loop4 {w0 : World} {p bs ml md : Nat} {v : Value} {kp : List (Wv × Wr)} (hv : KeptV w0 v (kp.map (·.1))) (hcut : ∀ q ∈ kp, q.1.2.2.1 = q.2.cut) (hn : kp.length ≤ maxList)
    {Q0 : Exit → Act → World → Prop} (c1 c2 c6 c7 c9 c10 c12 c13 c14 c15 c17 c18 c19 c20 c21 c22 c23 c24 c25 c26 c27 c28 c29 c30 c31 c32 c33 c34 c35 c36 c37 c38 c39 c40 c41 c42 c43 c44 c45 c46 c47 c48 c49 c50 c51 c52 c53 c54 c55 c56 c57 c58 c59 c60 c61 c62 c63 c64 c65 c66 c67 c68 c69 c70 c71 c72 c73 c74 c75 c76 c77 c78 c79 c80 c81 c82 c83 c84 c85 c86 c87 c88 c89 c90 c91 c92 c93 c94 c95 c96 c97 c98 c99 c100 c101 c102 c103 c104 c105 c106 c107 c108 c109 c110 c111 c112 c113 c114 c126 c127 c128 c129 c130 c131 c132 c133 c134 c135 c136 c137 c138 c139 c140 c141 c142 c143 c144 c145 c146 c147 c148 c149 c150 c151 c152 c153 c154 c155 c156 c157 c158 c159 c160 c161 c162 c163 c164 c165 c166 c167 c168 c169 c170 c171 c172 c173 c174 c175 c176 c177 c178 c179 c180 c181 c182 c183 c184 c185 c186 c187 c188 c189 c190 c191 c192 c193 c194 c195 c196 c197 c198 c199 c200 c201 c202 c203 c204 c205 c206 c207 c208 c209 c210 c211 c212 u115 u116 u117 u118 u119 u120 u121 u122 u123 u124 u125 : Value)
    (hexit : ∀ (u115 u116 u117 u118 u119 u120 u121 u122 u123 u124 u125 : Value), Q0 (.exit 6) ⟨(.pointer (some ⟨p, 0, none⟩) :: c1 :: c2 :: .pointer (some ⟨bs, 0, none⟩) :: .pointer none :: .map (some ml) :: c6 :: c7 :: .map (some md) :: c9 :: c10 :: v :: c12 :: c13 :: c14 :: c15 :: .int .i64 (lastI (lastW (kp.map (·.2)) kp.length)) :: c17 :: c18 :: c19 :: c20 :: c21 :: c22 :: c23 :: c24 :: c25 :: c26 :: c27 :: c28 :: c29 :: c30 :: c31 :: c32 :: c33 :: c34 :: c35 :: c36 :: c37 :: c38 :: c39 :: c40 :: c41 :: c42 :: c43 :: c44 :: c45 :: c46 :: c47 :: c48 :: c49 :: c50 :: c51 :: c52 :: c53 :: c54 :: c55 :: c56 :: c57 :: c58 :: c59 :: c60 :: c61 :: c62 :: c63 :: c64 :: c65 :: c66 :: c67 :: c68 :: c69 :: c70 :: c71 :: c72 :: c73 :: c74 :: c75 :: c76 :: c77 :: c78 :: c79 :: c80 :: c81 :: c82 :: c83 :: c84 :: c85 :: c86 :: c87 :: c88 :: c89 :: c90 :: c91 :: c92 :: c93 :: c94 :: c95 :: c96 :: c97 :: c98 :: c99 :: c100 :: c101 :: c102 :: c103 :: c104 :: c105 :: c106 :: c107 :: c108 :: c109 :: c110 :: c111 :: c112 :: c113 :: c114 :: u115 :: u116 :: u117 :: u118 :: u119 :: u120 :: u121 :: u122 :: u123 :: u124 :: u125 :: c126 :: c127 :: c128 :: c129 :: c130 :: c131 :: c132 :: c133 :: c134 :: c135 :: c136 :: c137 :: c138 :: c139 :: c140 :: c141 :: c142 :: c143 :: c144 :: c145 :: c146 :: c147 :: c148 :: c149 :: c150 :: c151 :: c152 :: c153 :: c154 :: c155 :: c156 :: c157 :: c158 :: c159 :: c160 :: c161 :: c162 :: c163 :: c164 :: c165 :: c166 :: c167 :: c168 :: c169 :: c170 :: c171 :: c172 :: c173 :: c174 :: c175 :: c176 :: c177 :: c178 :: c179 :: c180 :: c181 :: c182 :: c183 :: c184 :: c185 :: c186 :: c187 :: c188 :: c189 :: c190 :: c191 :: c192 :: c193 :: c194 :: c195 :: c196 :: c197 :: c198 :: c199 :: c200 :: c201 :: c202 :: c203 :: c204 :: c205 :: c206 :: c207 :: c208 :: c209 :: c210 :: c211 :: c212 :: ([] : List Value)).toArray, []⟩ w0) :
    Code.wp Try.prog (Code.loop (stopLoop 3)) Q0 ⟨(.pointer (some ⟨p, 0, none⟩) :: c1 :: c2 :: .pointer (some ⟨bs, 0, none⟩) :: .pointer none :: .map (some ml) :: c6 :: c7 :: .map (some md) :: c9 :: c10 :: v :: c12 :: c13 :: c14 :: c15 :: .int .i64 ((kp.length : Int) - 1) :: c17 :: c18 :: c19 :: c20 :: c21 :: c22 :: c23 :: c24 :: c25 :: c26 :: c27 :: c28 :: c29 :: c30 :: c31 :: c32 :: c33 :: c34 :: c35 :: c36 :: c37 :: c38 :: c39 :: c40 :: c41 :: c42 :: c43 :: c44 :: c45 :: c46 :: c47 :: c48 :: c49 :: c50 :: c51 :: c52 :: c53 :: c54 :: c55 :: c56 :: c57 :: c58 :: c59 :: c60 :: c61 :: c62 :: c63 :: c64 :: c65 :: c66 :: c67 :: c68 :: c69 :: c70 :: c71 :: c72 :: c73 :: c74 :: c75 :: c76 :: c77 :: c78 :: c79 :: c80 :: c81 :: c82 :: c83 :: c84 :: c85 :: c86 :: c87 :: c88 :: c89 :: c90 :: c91 :: c92 :: c93 :: c94 :: c95 :: c96 :: c97 :: c98 :: c99 :: c100 :: c101 :: c102 :: c103 :: c104 :: c105 :: c106 :: c107 :: c108 :: c109 :: c110 :: c111 :: c112 :: c113 :: c114 :: u115 :: u116 :: u117 :: u118 :: u119 :: u120 :: u121 :: u122 :: u123 :: u124 :: u125 :: c126 :: c127 :: c128 :: c129 :: c130 :: c131 :: c132 :: c133 :: c134 :: c135 :: c136 :: c137 :: c138 :: c139 :: c140 :: c141 :: c142 :: c143 :: c144 :: c145 :: c146 :: c147 :: c148 :: c149 :: c150 :: c151 :: c152 :: c153 :: c154 :: c155 :: c156 :: c157 :: c158 :: c159 :: c160 :: c161 :: c162 :: c163 :: c164 :: c165 :: c166 :: c167 :: c168 :: c169 :: c170 :: c171 :: c172 :: c173 :: c174 :: c175 :: c176 :: c177 :: c178 :: c179 :: c180 :: c181 :: c182 :: c183 :: c184 :: c185 :: c186 :: c187 :: c188 :: c189 :: c190 :: c191 :: c192 :: c193 :: c194 :: c195 :: c196 :: c197 :: c198 :: c199 :: c200 :: c201 :: c202 :: c203 :: c204 :: c205 :: c206 :: c207 :: c208 :: c209 :: c210 :: c211 :: c212 :: ([] : List Value)).toArray, []⟩ w0 := by
  have hmx : maxList = 4194304 := rfl
  obtain ⟨va, vc, rfl, hat⟩ := hv
  rw [List.length_map] at *
  conv => arg 2; arg 1; whnf
  go_loopw [16] (fun i wr => ∃ k : Nat, k ≤ kp.length ∧ i = .int .i64 ((k : Int) - 1) ∧ wr = w0 ∧ lastW (kp.map (·.2)) kp.length = lastW (kp.map (·.2)) k) (fun i _ => ((RowKit.intOf i) + 1).toNat)
  case atStart => exact ⟨kp.length, Nat.le_refl _, rfl, rfl, rfl⟩
  case round =>
    obtain ⟨k, hk, rfl, rfl, hlw⟩ := hrel
    cases k with
    | zero =>
      have e1 : ((0 : Nat) : Int) - 1 = -1 := rfl
      rw [e1]
      have hE := hexit
      rw [hlw] at hE
      go_wp2
      exact hE _ _ _ _ _ _ _ _ _ _ _
    | succ k =>
      have e1 : ((k + 1 : Nat) : Int) - 1 = (k : Int) := by omega
      rw [e1]
      obtain ⟨q, hq⟩ : ∃ q, kp[k]? = some q := ⟨kp[k]'(by omega), by simp⟩
      obtain ⟨g, cur, t, rfl, hg, hcu⟩ := hat k q.1 (by simp [hq])
      have hqc := hcut q (List.mem_of_getElem? hq)
      have hlk : lastW (kp.map (·.2)) (k + 1) = if q.2.cut then lastW (kp.map (·.2)) k else some k := by
        simp [lastW, hq]
      have c2 := cell_of_heap hg (i := k * 4 + 2) (v := .bool q.2.cut) (by have := hcu 2 (.bool q.1.2.2.1) rfl; rw [hqc] at this; simpa using this)
      have j0 : (0 : Int) ≤ (k : Int) := by omega
      have j1 : (k : Int) < (kp.length : Int) := by omega
      have HLW := Lib.hid hlw; clear hlw
      cases hqq : q.2.cut with
      | true =>
        rw [hqq] at c2 hlk
        have HLK := Lib.hid hlk; clear hlk hqc hcu
        go_wp2
        go_roundw
        case rel => exact ⟨k, by omega, by go_num, trivial, by rw [HLW.out, HLK.out]; rfl⟩
        case measure => simp [RowKit.intOf]
      | false =>
        rw [hqq] at c2 hlk
        have hE := hexit
        rw [HLW.out, hlk] at hE
        clear hlk hqc hcu
        go_wp2
        exact hE _ _ _ _ _ _ _ _ _ _ _

end Go.Proofs.Ytgckcnnnblggbaa
