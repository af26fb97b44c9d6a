/- Texts of this claim, one behind the other: DlC, DlE. -/
import Derived.Test.YtlmdpcaikhdenaaGreatSl19
import Derived.BigRegion
set_option linter.unusedSimpArgs false
set_option linter.unusedVariables false
/- Disk: Stop: the sixth loop: the new disk's names and files. -/
namespace Go.Proofs.YtlmdpcaikhdenaaGreat
open Go.RowKit Go.Maps Go.Shelf

/-- names with new numbers, in order -/
def numsFrom (o : Nat) (l : NL) : NL := (l.zipIdx o).map fun p => (p.1.1, p.2)
def nums (l : NL) : NL := numsFrom 0 l
theorem nums_append (l : NL) (x : List UInt8 × Nat) : nums (l ++ [x]) = nums l ++ [(x.1, l.length)] := by
  unfold nums numsFrom
  rw [List.zipIdx_append, List.map_append]; simp
theorem before_asymm {a b : List UInt8} (h : bytesBefore a b = true) : bytesBefore b a = false := by
  cases h2 : bytesBefore b a
  · rfl
  · exact absurd (before_lt _ _ h) (fun h3 => List.lt_irrefl _ (List.lt_trans h3 (before_lt _ _ h2)))
theorem nlIns_end {x : List UInt8 × Nat} : ∀ {l : NL}, (∀ p ∈ l, bytesBefore p.1 x.1 = true) → nlIns x l = l ++ [x]
  | [], _ => rfl
  | y :: r, h => by
    unfold nlIns
    rw [before_asymm (h y List.mem_cons_self)]
    simp only [Bool.false_eq_true, if_false, List.cons_append]
    rw [nlIns_end (fun p hp => h p (List.mem_cons_of_mem _ hp))]
theorem nlPut_end {l : NL} {k : List UInt8} {n : Nat} (h : ∀ p ∈ l, bytesBefore p.1 k = true) : nlPut l k n = l ++ [(k, n)] := by
  unfold nlPut
  have hd : nlDel l k = l := by
    unfold nlDel
    rw [List.filter_eq_self]
    intro p hp
    have := before_lt _ _ (h p hp)
    have hne : p.1 ≠ k := fun e => by rw [e] at this; exact List.lt_irrefl _ this
    simp [hne]
  rw [hd, nlIns_end h]
theorem mem_nums {l : NL} {p : List UInt8 × Nat} (h : p ∈ nums l) : ∃ q ∈ l, q.1 = p.1 ∧ p.2 < l.length := by
  unfold nums numsFrom at h
  obtain ⟨q, hq, rfl⟩ := List.mem_map.1 h
  obtain ⟨h1, h2, h3⟩ := List.mem_zipIdx hq
  exact ⟨q.1, by rw [h3]; exact List.getElem_mem _, rfl, by simpa using h2⟩
theorem nums_next {L : NL} (hL : Rising L) {k : Nat} {x : List UInt8 × Nat} (hx : L[k]? = some x) : nlPut (nums (L.take k)) x.1 k = nums (L.take (k + 1)) := by
  obtain ⟨hk, hx'⟩ := List.getElem?_eq_some_iff.1 hx
  rw [List.take_succ_eq_append_getElem hk, nums_append, hx', List.length_take, Nat.min_eq_left (by omega)]
  refine nlPut_end fun p hp => ?_
  obtain ⟨q, hq, e, _⟩ := mem_nums hp
  rw [← e]
  obtain ⟨i, hi, hqi⟩ := List.mem_iff_getElem.1 hq
  rw [List.getElem_take] at hqi
  rw [← hqi, ← hx']
  simp only [List.length_take] at hi
  exact (List.pairwise_iff_getElem.1 hL) i k (by omega) hk (by omega)

/-- the new disk's maps behind k names -/
def OutAt (w w0 : World) (RD : Nat → Prop) (L : NL) (D : Nat → List UInt8) (mf mn k : Nat) (wr : World) : Prop :=
  ∃ fb : List Nat, w0.heap.size ≤ wr.heap.size ∧ Below w.heap.size w wr ∧ Chg (fun b => b = mf ∨ b = mn) w0 wr ∧ wr.ownsMap Tryz.prog 3 ptrElem mf fb.length (filesD fb) ∧ fb.length = k ∧
    wr.ownsMap Tryz.prog 9 (plainElem Tryz.prog 3) mn k (nameD (nums (L.take k))) ∧ (∀ (i : Nat) b q, fb[i]? = some b → L[i]? = some q → FileIn wr RD b (D q.2, D q.2)) ∧ (∀ b ∈ fb, w0.heap.size ≤ b ∧ b < wr.heap.size) ∧ fb.Nodup
theorem OutAt.step {w w0 wr : World} {RD : Nat → Prop} {L : NL} {D : Nat → List UInt8} {mf mn k : Nat} (h : OutAt w w0 RD L D mf mn k wr) {x : List UInt8 × Nat} (hx : L[k]? = some x) (hL : Rising L) (hk : k < 8388608) (hne : mf ≠ mn) (hww : w.heap.size ≤ w0.heap.size) (hmf : w.heap.size ≤ mf) (hmn : w.heap.size ≤ mn)
    (hmf0 : mf < w0.heap.size) (hmn0 : mn < w0.heap.size) (hRD : ∀ b, RD b → b ≠ mf ∧ b ≠ mn ∧ b < w0.heap.size)
    {w1 : World} (hm1 : w1.ownsMap Tryz.prog 9 (plainElem Tryz.prog 3) mn (k + 1) (nameD (nlPut (nums (L.take k)) x.1 k))) (ht1 : wr.mapTurned w1 mn) {u : Value} (hu : BytesIn w1 RD u (D x.2)) (t : TypeId) :
    ∃ w3, (Instr.mapUpdate 107 (.map (some mf)) (.int .i64 (k : Int)) (.pointer (some ⟨w1.heap.size, 0, none⟩))).run Tryz.prog (w1.alloc (.cells #[u, u] t)).drew = .ok () w3 ∧ OutAt w w0 RD L D mf mn (k + 1) w3 := by
  have hmx : maxList = 4194304 := rfl
  have hmax : maxLen = 9223372036854775807 := rfl
  obtain ⟨fb, a1, a2, a3, a4, a5, a6, a7, a8, a9⟩ := h
  have hcA : Chg (fun b => b = mf ∨ b = mn) wr w1 := Chg.turned ht1 (.inr rfl)
  have hcB : Chg (fun b => b = mf ∨ b = mn) w1 (w1.alloc (.cells #[u, u] t)).drew := (Chg.alloc _ _ _).drew
  have hmf1 : w1.ownsMap Tryz.prog 3 ptrElem mf fb.length (filesD fb) := (Chg.turned (O := (· = mn)) ht1 rfl).map a4 hne
  have hmf2 : (w1.alloc (.cells #[u, u] t)).drew.ownsMap Tryz.prog 3 ptrElem mf fb.length (filesD fb) := (Chg.alloc (fun _ => False) w1 (.cells #[u, u] t)).drew.map hmf1 (fun h => h)
  obtain ⟨w3, hr, hm3, ht3⟩ := hmf2.store (int_keyed Tryz.underlying3) Tryz.underlying107 (by omega) (key := .int .i64 (k : Int)) (val := .pointer (some ⟨w1.heap.size, 0, none⟩)) (keyOf_int_mk Tryz.underlying3 (wf_i64 (by omega) (by omega))) (ptrElem_mk _)
  rw [← a5, filesD_put] at hm3
  rw [← a5] at hr ⊢
  have hcC : Chg (fun b => b = mf ∨ b = mn) (w1.alloc (.cells #[u, u] t)).drew w3 := Chg.turned ht3 (.inl rfl)
  have hc13 : Chg (fun b => b = mf ∨ b = mn) w1 w3 := hcB.trans hcC (fun _ h _ => h)
  have hcr3 : Chg (fun b => b = mf ∨ b = mn) wr w3 := hcA.trans hc13 (fun _ h _ => h)
  have hc03 : Chg (fun b => b = mf ∨ b = mn) w0 w3 := a3.trans hcr3 (fun _ h _ => h)
  have hs1 := hcA.size
  have hs13 : w1.heap.size < w3.heap.size := by
    have h1 := hcC.size
    have h2 : (w1.alloc (.cells #[u, u] t)).drew.heap.size = w1.heap.size + 1 := World.size_alloc _ _
    omega
  have hO : ∀ b, RD b → ¬ (b = mf ∨ b = mn) := fun b hb => by have := hRD b hb; omega
  refine ⟨w3, hr, fb ++ [w1.heap.size], Nat.le_trans a1 hcr3.size, ⟨hc03.os.trans ?_, hc03.tape.trans ?_, hc03.output.trans ?_, by omega, fun y hy => ?_⟩, hc03, by rw [List.length_append]; exact hm3, by simp, ?_, fun i b q hb hq => ?_, fun b hb => ?_, ?_⟩
  · exact (a3.os.symm.trans a2.os)
  · exact (a3.tape.symm.trans a2.tape)
  · exact (a3.output.symm.trans a2.output)
  · exact (hcr3.block y (by have := a2.size; omega) (by omega)).trans (a2.block y hy)
  · rw [a5]
    have hm := (Chg.turned (O := (· = mf)) ht3 rfl).map ((Chg.alloc (fun _ => False) w1 (.cells #[u, u] t)).drew.map hm1 (fun h => h)) (fun e => hne e.symm)
    rw [nums_next hL hx] at hm
    exact hm
  · by_cases hi : i < fb.length
    · rw [List.getElem?_append_left hi] at hb
      have h8 := a8 b (List.mem_of_getElem? hb)
      exact (a7 i b q hb hq).kept hcr3 hO (fun _ h => h) (by omega)
    · obtain ⟨hi1, _⟩ := List.getElem?_eq_some_iff.1 hb
      simp at hi1
      obtain rfl : i = fb.length := by omega
      simp at hb
      subst hb
      rw [a5, hx] at hq
      obtain rfl := Option.some.inj hq
      have hbk : (w1.alloc (.cells #[u, u] t)).drew.heap[w1.heap.size]? = some (.cells #[u, u] t (0, 0)) := World.alloc_heap_new w1 _
      have hub : BytesIn w3 RD u (D x.2) := hu.kept hc13 hO (fun _ h => h)
      exact ⟨t, u, u, hcC.obj hbk (by omega), hub, hub⟩
  · rcases List.mem_append.1 hb with hb | hb
    · have := a8 b hb; have := hcr3.size; omega
    · simp at hb; omega
  · rw [List.nodup_append]
    refine ⟨a9, by simp, fun a ha b hb => ?_⟩
    simp at hb
    have := a8 a ha
    omega

set_option maxRecDepth 1000000 in
set_option maxHeartbeats 8000000 in
theorem stop_loop6 {w w0 : World} {RD : Nat → Prop} {L : NL} {D : Nat → List UInt8} {g : Nat → Option Value} {ml md nd po mf mn F : Nat} {co : Array Value} {te : TypeId} {va : Option Addr} {vc : Nat}
    (hL : NamesOk L F) (hF : F ≤ maxList) (hLn : L.length ≤ 8388608) (hww : w.heap.size ≤ w0.heap.size) (hb0 : Below w.heap.size w w0) (hmf : w.heap.size ≤ mf) (hmn : w.heap.size ≤ mn) (hne : mf ≠ mn)
    (hpo : w0.heap[po]? = some (.cells co te (0, 0))) (hpf : po ≠ mf) (hpn : po ≠ mn) (hco1 : co[1]? = some (.map (some mf))) (hco2 : co[2]? = some (.map (some mn)))
    (hlf : ml ≠ mf) (hln : ml ≠ mn) (hdf : md ≠ mf) (hdn : md ≠ mn) (hvf : ∀ x, va = some x → x.block ≠ mf ∧ x.block ≠ mn)
    (hfm0 : w0.ownsMap Tryz.prog 3 ptrElem mf 0 (filesD [])) (hnm0 : w0.ownsMap Tryz.prog 9 (plainElem Tryz.prog 3) mn 0 (nameD []))
    (hml0 : w0.ownsMap Tryz.prog 9 (plainElem Tryz.prog 3) ml L.length (nameD L)) (hg0 : DatMap w0 md nd g) (hgs : ∀ f, (g f).isSome = leadsTo L f) (hgb : ∀ f u, g f = some u → BytesIn w0 RD u (D f))
    (hRD : ∀ b, RD b → b ≠ mf ∧ b ≠ mn ∧ b < w0.heap.size) (hv0 : RowAt w0 va ((L.map (·.1)).map sv))
    {Q0 : Exit → Act → World → Prop} (c0 c1 c2 c3 c4 c6 c7 c9 c10 c11 c12 c13 c14 c15 c16 c17 c18 c19 c21 c22 c25 c26 c27 c28 c29 c30 c31 c32 c33 c34 c35 c36 c37 c38 c39 c40 c41 c42 c43 c44 c45 c46 c47 c48 c49 c50 c51 c52 c53 c54 c55 c56 c57 c58 c59 c60 c61 c62 c63 c64 c65 c66 c67 c68 c69 c70 c71 c72 c73 c74 c75 c76 c77 c78 c79 c80 c81 c82 c83 c84 c85 c86 c87 c88 c89 c90 c91 c92 c93 c94 c95 c96 c97 c98 c99 c100 c101 c102 c103 c104 c105 c106 c107 c108 c109 c110 c111 c112 c113 c114 c115 c116 c117 c118 c119 c120 c121 c122 c123 c124 c125 c126 c127 c128 c129 c130 c131 c132 c133 c134 c135 c136 c137 c138 c139 c140 c141 c142 c143 c144 c145 c146 c147 c148 c149 c150 c151 c152 c153 c154 c155 c156 c157 c158 c159 c160 c161 c162 c163 c164 c165 c166 c167 c168 c204 c205 c206 c207 c208 c209 c210 c211 c212 u23 u24 u172 u173 u174 u175 u176 u177 u178 u179 u180 u181 u182 u183 u184 u185 u186 u187 u188 u189 u190 u191 u192 u193 u194 u195 u196 u197 u198 u199 u200 u201 u202 u203 : Value)
    (hexit : ∀ (u23 u24 u171 u172 u173 u174 u175 u176 u177 u178 u179 u180 u181 u182 u183 u184 u185 u186 u187 u188 u189 u190 u191 u192 u193 u194 u195 u196 u197 u198 u199 u200 u201 u202 u203 : Value) (w' : World), OutAt w w0 RD L D mf mn L.length w' → Q0 (.exit 10) ⟨(c0 :: c1 :: c2 :: c3 :: c4 :: .map (some ml) :: c6 :: c7 :: .map (some md) :: c9 :: c10 :: c11 :: c12 :: c13 :: c14 :: c15 :: c16 :: c17 :: c18 :: c19 :: .pointer (some ⟨po, 0, none⟩) :: c21 :: c22 :: u23 :: u24 :: c25 :: c26 :: c27 :: c28 :: c29 :: c30 :: c31 :: c32 :: c33 :: c34 :: c35 :: c36 :: c37 :: c38 :: c39 :: c40 :: c41 :: c42 :: c43 :: c44 :: c45 :: c46 :: c47 :: c48 :: c49 :: c50 :: c51 :: c52 :: c53 :: c54 :: c55 :: c56 :: c57 :: c58 :: c59 :: c60 :: c61 :: c62 :: c63 :: c64 :: c65 :: c66 :: c67 :: c68 :: c69 :: c70 :: c71 :: c72 :: c73 :: c74 :: c75 :: c76 :: c77 :: c78 :: c79 :: c80 :: c81 :: c82 :: c83 :: c84 :: c85 :: c86 :: c87 :: c88 :: c89 :: c90 :: c91 :: c92 :: c93 :: c94 :: c95 :: c96 :: c97 :: c98 :: c99 :: c100 :: c101 :: c102 :: c103 :: c104 :: c105 :: c106 :: c107 :: c108 :: c109 :: c110 :: c111 :: c112 :: c113 :: c114 :: c115 :: c116 :: c117 :: c118 :: c119 :: c120 :: c121 :: c122 :: c123 :: c124 :: c125 :: c126 :: c127 :: c128 :: c129 :: c130 :: c131 :: c132 :: c133 :: c134 :: c135 :: c136 :: c137 :: c138 :: c139 :: c140 :: c141 :: c142 :: c143 :: c144 :: c145 :: c146 :: c147 :: c148 :: c149 :: c150 :: c151 :: c152 :: c153 :: c154 :: c155 :: c156 :: c157 :: c158 :: c159 :: c160 :: c161 :: c162 :: c163 :: c164 :: c165 :: c166 :: c167 :: c168 :: .slice va L.length vc :: .int .i64 (L.length : Int) :: u171 :: u172 :: u173 :: u174 :: u175 :: u176 :: u177 :: u178 :: u179 :: u180 :: u181 :: u182 :: u183 :: u184 :: u185 :: u186 :: u187 :: u188 :: u189 :: u190 :: u191 :: u192 :: u193 :: u194 :: u195 :: u196 :: u197 :: u198 :: u199 :: u200 :: u201 :: u202 :: u203 :: c204 :: c205 :: c206 :: c207 :: c208 :: c209 :: c210 :: c211 :: c212 :: ([] : List Value)).toArray, []⟩ w') :
    Code.wp Tryz.prog (Code.loop (stopLoop 5)) Q0 ⟨(c0 :: c1 :: c2 :: c3 :: c4 :: .map (some ml) :: c6 :: c7 :: .map (some md) :: c9 :: c10 :: c11 :: c12 :: c13 :: c14 :: c15 :: c16 :: c17 :: c18 :: c19 :: .pointer (some ⟨po, 0, none⟩) :: c21 :: c22 :: u23 :: u24 :: c25 :: c26 :: c27 :: c28 :: c29 :: c30 :: c31 :: c32 :: c33 :: c34 :: c35 :: c36 :: c37 :: c38 :: c39 :: c40 :: c41 :: c42 :: c43 :: c44 :: c45 :: c46 :: c47 :: c48 :: c49 :: c50 :: c51 :: c52 :: c53 :: c54 :: c55 :: c56 :: c57 :: c58 :: c59 :: c60 :: c61 :: c62 :: c63 :: c64 :: c65 :: c66 :: c67 :: c68 :: c69 :: c70 :: c71 :: c72 :: c73 :: c74 :: c75 :: c76 :: c77 :: c78 :: c79 :: c80 :: c81 :: c82 :: c83 :: c84 :: c85 :: c86 :: c87 :: c88 :: c89 :: c90 :: c91 :: c92 :: c93 :: c94 :: c95 :: c96 :: c97 :: c98 :: c99 :: c100 :: c101 :: c102 :: c103 :: c104 :: c105 :: c106 :: c107 :: c108 :: c109 :: c110 :: c111 :: c112 :: c113 :: c114 :: c115 :: c116 :: c117 :: c118 :: c119 :: c120 :: c121 :: c122 :: c123 :: c124 :: c125 :: c126 :: c127 :: c128 :: c129 :: c130 :: c131 :: c132 :: c133 :: c134 :: c135 :: c136 :: c137 :: c138 :: c139 :: c140 :: c141 :: c142 :: c143 :: c144 :: c145 :: c146 :: c147 :: c148 :: c149 :: c150 :: c151 :: c152 :: c153 :: c154 :: c155 :: c156 :: c157 :: c158 :: c159 :: c160 :: c161 :: c162 :: c163 :: c164 :: c165 :: c166 :: c167 :: c168 :: .slice va L.length vc :: .int .i64 (L.length : Int) :: .int .i64 0 :: u172 :: u173 :: u174 :: u175 :: u176 :: u177 :: u178 :: u179 :: u180 :: u181 :: u182 :: u183 :: u184 :: u185 :: u186 :: u187 :: u188 :: u189 :: u190 :: u191 :: u192 :: u193 :: u194 :: u195 :: u196 :: u197 :: u198 :: u199 :: u200 :: u201 :: u202 :: u203 :: c204 :: c205 :: c206 :: c207 :: c208 :: c209 :: c210 :: c211 :: c212 :: ([] : List Value)).toArray, []⟩ w0 := by
  have hmx : maxList = 4194304 := rfl
  have hmax : maxLen = 9223372036854775807 := rfl
  have hmf0 := hfm0.lt
  have hmn0 := hnm0.lt
  conv => arg 2; arg 1; whnf
  go_loopw [171] (fun i wr => ∃ k : Nat, k ≤ L.length ∧ i = .int .i64 k ∧ OutAt w w0 RD L D mf mn k wr) (fun i _ => L.length - (RowKit.intOf i).toNat)
  case atStart => exact ⟨0, by omega, rfl, [], Nat.le_refl _, hb0, Chg.refl _ _, hfm0, rfl, hnm0, fun i b q hb => (by simp at hb), fun b hb => (by simp at hb), List.nodup_nil⟩
  case round =>
    obtain ⟨k, hk, rfl, hout⟩ := hrel
    by_cases hlt : k < L.length
    · obtain ⟨x, hx⟩ : ∃ x, L[k]? = some x := ⟨L[k]'hlt, by simp⟩
      have hxm := List.mem_of_getElem? hx
      obtain ⟨hxF, hxN⟩ := hL.each x hxm
      have hfind := rising_find hL.rising (k := x.1) (n := x.2) hxm
      have hx64 : x.1.length ≤ maxLen := by have : _ ≤ 64 := hxN.2.1; unfold maxLen; omega
      have hout' := hout
      obtain ⟨fb, a1, a2, a3, a4, a5, a6, a7, a8, a9⟩ := hout'
      have hrow := hv0.chg a3 (fun _ y hy => by have := hvf y hy; omega)
      obtain ⟨gb, go, rfl, hcx⟩ := hrow.at_ (k := k) (by simpa using hlt)
      rw [show ((L.map (·.1)).map sv)[k]'(by simpa using hlt) = .string ⟨x.1.toArray⟩ from by
        obtain ⟨_, e⟩ := List.getElem?_eq_some_iff.1 hx
        simp [e, sv]] at hcx
      have hpr := a3.obj hpo (by omega)
      have p1 := cell_of_heap hpr (i := 1) hco1
      have p2 := cell_of_heap hpr (i := 2) hco2
      have hlen := fun ty => a4.len Tryz.underlying107 ty
      rw [filesD_size, a5] at hlen
      have j0 : (0 : Int) ≤ (k : Int) := by omega
      have j1 : (k : Int) < (L.length : Int) := by omega
      have hmlr := a3.map hml0 (by omega)
      have hgr := hg0.of_chg a3 (by omega)
      obtain ⟨u, hu⟩ := Option.isSome_iff_exists.1 ((hgs x.2).trans (by unfold leadsTo; rw [List.any_eq_true]; exact ⟨x, hxm, by simp⟩))
      have hub := (hgb x.2 u hu).kept a3 (fun b hb => by have := hRD b hb; omega) (fun _ h => h)
      obtain ⟨ua, uc, rfl, _⟩ := hub.row
      have HO := Lib.hid hout; clear hout
      have HX := Lib.hid hx; clear hx
      have HF := Lib.hid hfind; clear hfind
      clear a1 a2 a4 a5 a7 a8 a9
      go_wp2_with (at_mapUpdate; refine wpList_mapUpdate_in _ rfl _ _ _ 109 rfl 9 3 (string_keyed Tryz.underlying9) Tryz.underlying109 (plainElem Tryz.prog 3) mn k (nameD (nums (L.take k))) rfl a6 (by omega) _ _ (.string x.1) rfl rfl (key_str hx64) (.lit (.int .i64 (k : Int))) [] (elem_int (by omega)) ?_)
      intro w1 hm1 ht1
      rw [nameD_put] at hm1
      have hcm : Chg (fun b => b = mf ∨ b = mn) wr w1 := Chg.turned ht1 (.inr rfl)
      have hub1 := hub.kept hcm (fun b hb => by have := hRD b hb; omega) (fun _ h => h)
      obtain ⟨w3, hst, hnx⟩ := HO.out.step HX.out hL.rising (by omega) hne hww hmf hmn hmf0 hmn0 hRD hm1 ht1 hub1 121
      have hlk1 : (Instr.lookup 109 (.map (some ml)) (.string ⟨x.1.toArray⟩) false).run Tryz.prog w1.drew = .ok (.int .i64 (x.2 : Int)) w1.drew := by
        have := look_name1 (w := w1.drew) (hcm.drew.map hmlr (by omega)) hx64
        rw [HF.out] at this
        exact this
      have hlk2 : (Instr.lookup 119 (.map (some md)) (.int .i64 (x.2 : Int)) false).run Tryz.prog w1.drew = .ok (.slice ua (D x.2).length uc) w1.drew := DatMap.look (W := w1.drew) (hgr.of_chg hcm.drew (by omega)) (by omega) hu
      have p1' : w1.drew.cell? ⟨po, 1, none⟩ = some (.map (some mf)) := hcm.drew.cell p1 (by show ¬ (po = mf ∨ po = mn); omega)
      have hst' : (Instr.mapUpdate 107 (.map (some mf)) (.int .i64 (k : Int)) (.pointer (some ⟨w1.heap.size, 0, none⟩))).run Tryz.prog (w1.drew.alloc (.cells #[.slice ua (D x.2).length uc, .slice ua (D x.2).length uc] 121)) = .ok () w3 := hst
      have p1'' : (w1.alloc (.cells #[.slice ua (D x.2).length uc, .slice ua (D x.2).length uc] 121)).cell? ⟨po, 1, none⟩ = some (.map (some mf)) := (Chg.alloc (fun _ => False) w1 _).cell p1' (fun h => h)
      have HNX := Lib.hid hnx; clear hnx
      clear hm1 ht1 hub1 hub hcm p1 p2 hmlr hgr hcx hlen a6
      go_wp2
      refine wp_onlyN (fun a w5 => ∀ Kc : Act → World → Prop, (∀ (u23 u24 u172 u173 u174 u175 u176 u177 u178 u179 u180 u181 u182 u183 u184 u185 u186 u187 u188 u189 u190 u191 u192 u193 u194 u195 u196 u197 u198 u199 u200 u201 u202 u203 : Value), OutAt w w0 RD L D mf mn (k + 1) w5 → Kc ⟨(c0 :: c1 :: c2 :: c3 :: c4 :: .map (some ml) :: c6 :: c7 :: .map (some md) :: c9 :: c10 :: c11 :: c12 :: c13 :: c14 :: c15 :: c16 :: c17 :: c18 :: c19 :: .pointer (some ⟨po, 0, none⟩) :: c21 :: c22 :: u23 :: u24 :: c25 :: c26 :: c27 :: c28 :: c29 :: c30 :: c31 :: c32 :: c33 :: c34 :: c35 :: c36 :: c37 :: c38 :: c39 :: c40 :: c41 :: c42 :: c43 :: c44 :: c45 :: c46 :: c47 :: c48 :: c49 :: c50 :: c51 :: c52 :: c53 :: c54 :: c55 :: c56 :: c57 :: c58 :: c59 :: c60 :: c61 :: c62 :: c63 :: c64 :: c65 :: c66 :: c67 :: c68 :: c69 :: c70 :: c71 :: c72 :: c73 :: c74 :: c75 :: c76 :: c77 :: c78 :: c79 :: c80 :: c81 :: c82 :: c83 :: c84 :: c85 :: c86 :: c87 :: c88 :: c89 :: c90 :: c91 :: c92 :: c93 :: c94 :: c95 :: c96 :: c97 :: c98 :: c99 :: c100 :: c101 :: c102 :: c103 :: c104 :: c105 :: c106 :: c107 :: c108 :: c109 :: c110 :: c111 :: c112 :: c113 :: c114 :: c115 :: c116 :: c117 :: c118 :: c119 :: c120 :: c121 :: c122 :: c123 :: c124 :: c125 :: c126 :: c127 :: c128 :: c129 :: c130 :: c131 :: c132 :: c133 :: c134 :: c135 :: c136 :: c137 :: c138 :: c139 :: c140 :: c141 :: c142 :: c143 :: c144 :: c145 :: c146 :: c147 :: c148 :: c149 :: c150 :: c151 :: c152 :: c153 :: c154 :: c155 :: c156 :: c157 :: c158 :: c159 :: c160 :: c161 :: c162 :: c163 :: c164 :: c165 :: c166 :: c167 :: c168 :: .slice (some ⟨gb, go, none⟩) L.length vc :: .int .i64 (L.length : Int) :: .int .i64 (k : Int) :: u172 :: u173 :: u174 :: u175 :: u176 :: u177 :: u178 :: u179 :: u180 :: u181 :: u182 :: u183 :: u184 :: u185 :: u186 :: u187 :: u188 :: u189 :: u190 :: u191 :: u192 :: u193 :: u194 :: u195 :: u196 :: u197 :: u198 :: u199 :: u200 :: u201 :: u202 :: u203 :: c204 :: c205 :: c206 :: c207 :: c208 :: c209 :: c210 :: c211 :: c212 :: ([] : List Value)).toArray, []⟩ w5) → Kc a w5) ?_ (fun a w5 h5 => h5 _ (fun u23 u24 u172 u173 u174 u175 u176 u177 u178 u179 u180 u181 u182 u183 u184 u185 u186 u187 u188 u189 u190 u191 u192 u193 u194 u195 u196 u197 u198 u199 u200 u201 u202 u203 hrel5 => ?_))
      · go_region
        all_goals exact fun Kc hKc => hKc _ _ _ _ _ _ _ _ _ _ _ _ _ _ _ _ _ _ _ _ _ _ _ _ _ _ _ _ _ _ _ _ _ _ HNX.out
      · clear HNX hst hst' hlk1 hlk2 p1' p1''
        go_wp2
        go_roundw
        case rel => exact ⟨k + 1, by omega, by go_num, hrel5⟩
        case measure => simp [RowKit.intOf]; omega
    · obtain rfl : k = L.length := by omega
      go_wp2
      first | exact hexit _ _ _ _ _ _ _ _ _ _ _ _ _ _ _ _ _ _ _ _ _ _ _ _ _ _ _ _ _ _ _ _ _ _ _ wr hout | exact hout

end Go.Proofs.YtlmdpcaikhdenaaGreat
/- Disk: Stop: the new disk stands: no walk. -/
namespace Go.Proofs.YtlmdpcaikhdenaaGreat
open Go.RowKit Go.Maps Go.Shelf

theorem nums_of (L : NL) (D : Nat → List UInt8) : ((L.map fun p => (p.1, D p.2)).zipIdx.map fun p => (p.1.1, p.2)) = nums L := by
  unfold nums numsFrom
  rw [List.zipIdx_map, List.map_map]
  rfl
theorem nums_len (L : NL) : (nums L).length = L.length := by simp [nums, numsFrom]
theorem files_of (L : NL) (D : Nat → List UInt8) (room : Nat) : (DSt.ofFiles room (L.map fun p => (p.1, D p.2))).files = L.map fun p => (D p.2, D p.2) := by
  unfold DSt.ofFiles; simp only []; rw [List.map_map]; rfl
theorem empty_files {w : World} {p room : Nat} {R : Nat → Prop} {mf mn ms : Nat} {fb : List Nat} {vs vw : Value} {ss : List Value} {ws : List (List Value)} {e : TypeId} (h : DiskP w p (DSt.empty room) R mf mn ms fb vs vw ss ws e) : fb = [] ∧ ss = [] ∧ ws = [] := by
  have h1 := h.count
  have h2 := h.stepsR.1
  have h3 := h.count4
  refine ⟨List.eq_nil_of_length_eq_zero (by simpa [DSt.empty] using h1), List.eq_nil_of_length_eq_zero (by simpa [DSt.empty] using h2), List.eq_nil_of_length_eq_zero (by simpa [DSt.empty] using h3)⟩

theorem DiskP.built {w w10 w11 w12 w13 : World} {po room : Nat} {R RE RD : Nat → Prop} {mf mn ms : Nat} {vs vw : Value} {e : TypeId} (hE : DiskP w10 po (DSt.empty room) RE mf mn ms [] vs vw [] [] e)
    (hown : ∀ b ∈ ownL po mf mn vs vw [], w.heap.size ≤ b) (hz10 : w.heap.size ≤ w10.heap.size) (h1 : Below w10.heap.size w10 w11) {L : NL} {D : Nat → List UInt8} (hO : OutAt w w11 RD L D mf mn L.length w12)
    (hm13 : w13.ownsMap Tryz.prog 9 (plainElem Tryz.prog 3) w12.heap.size L.length (nameD (nums L))) (hb13 : Below w12.heap.size w12 w13)
    (hRD : ∀ b, RD b → R b ∨ (w.heap.size ≤ b ∧ b < w10.heap.size ∧ b ∉ ownL po mf mn vs vw [])) (hRs : ∀ b, R b → b < w.heap.size) :
    ∃ own', DiskAt (w13.setCell ⟨po, 3, none⟩ (.map (some w12.heap.size))) po (DSt.ofFiles room (L.map fun p => (p.1, D p.2))) own' (RNew R w (w13.setCell ⟨po, 3, none⟩ (.map (some w12.heap.size))) own') ∧ (∀ b ∈ own', w.heap.size ≤ b) ∧ Below w.heap.size w (w13.setCell ⟨po, 3, none⟩ (.map (some w12.heap.size))) := by
  obtain ⟨fb, a1, a2, a3, a4, a5, a6, a7, a8, a9⟩ := hO
  rw [List.take_length] at a6
  have hc1 : Chg (fun b => b = po ∨ b = mf ∨ b = mn) w10 w11 := Chg.of_below h1
  have hc2 : Chg (fun b => b = po ∨ b = mf ∨ b = mn) w11 w12 := a3.mono (fun b hb _ => .inr hb)
  have hc3 : Chg (fun b => b = po ∨ b = mf ∨ b = mn) w12 w13 := Chg.of_below hb13
  have hc4 : Chg (fun b => b = po) w13 (w13.setCell ⟨po, 3, none⟩ (.map (some w12.heap.size))) := Chg.set _ rfl
  obtain ⟨n1, n2, n3, n4, _⟩ := hE.ne_p
  obtain ⟨m1, m2, m3, m4, _⟩ := hE.ne_mn
  have hvmf : ∀ k, vs.ownBlock = some k → k ≠ mf := fun k hk => (hE.ne_vs hk).1
  have hwmf : ∀ k, vw.ownBlock = some k → k ≠ mf := fun k hk => (hE.ne_vw hk).1
  have hlt : ∀ b ∈ ownL po mf mn vs vw [], b < w10.heap.size := fun b hb => (hE.own b hb).1
  have hplt := hlt po mem_own_p
  have hmflt := hlt mf mem_own_mf
  have hmnlt := hlt mn mem_own_mn
  have hs1 := hc1.size
  have hs2 := hc2.size
  have hs3 := hc3.size
  have hs4 : (w13.setCell ⟨po, 3, none⟩ (.map (some w12.heap.size))).heap.size = w13.heap.size := by simp [World.setCell]
  have hm13l := hm13.lt
  have hcells13 : w13.heap[po]? = some (.cells #[.int .i64 (room : Int), .map (some mf), .map (some mn), .map (some ms), vs, vw, .int .i64 0] e (0, 0)) := by
    have k1 := (hb13.block po (by omega)).trans ((a3.block po (by omega) (by omega)).trans ((h1.block po hplt).trans hE.cells))
    simpa [DSt.empty] using k1
  have hcell := heap_set_cells (i := 3) (.map (some w12.heap.size)) hcells13
  have hpp := hown po mem_own_p
  have hbf : Below w.heap.size w (w13.setCell ⟨po, 3, none⟩ (.map (some w12.heap.size))) := (a2.trans (hb13.mono a2.size)).setCell (p := ⟨po, 3, none⟩) hpp _
  generalize w13.setCell ⟨po, 3, none⟩ (.map (some w12.heap.size)) = w14 at *
  have hc34 : Chg (fun b => b = po) w12 w14 := (Chg.of_below (O := fun b => b = po) hb13).trans hc4 (fun _ h _ => h)
  have hc14 : Chg (fun b => b = po ∨ b = mf ∨ b = mn) w10 w14 := ((hc1.trans hc2 (fun _ h _ => h)).trans hc3 (fun _ h _ => h)).trans hc4 (fun _ h _ => .inl h)
  have hfpo : ∀ b ∈ fb, b ≠ po := fun b hb => by have := a8 b hb; omega
  have hmemO : ∀ b, b ∈ ownL po mf mn vs vw fb → b ∈ ownL po mf mn vs vw [] ∨ b ∈ fb := fun b hb => by
    simp only [ownL, List.mem_cons, List.mem_append, List.not_mem_nil, or_false] at hb ⊢
    grind
  have hRDpo : ∀ b, RD b → b ≠ po := fun b hb e1 => by
    rcases hRD b hb with h | h
    · have := hRs b h; omega
    · exact h.2.2 (e1 ▸ mem_own_p)
  have hRDok : ∀ b, RD b → RNew R w w14 (ownL po mf mn vs vw fb) b := fun b hb => by
    rcases hRD b hb with h | ⟨h, h', h''⟩
    · exact .inl h
    · refine .inr ⟨h, by omega, fun hm => ?_⟩
      rcases hmemO b hm with h3 | h3
      · exact h'' h3
      · have := a8 b h3; omega
  have hgE : ∀ b ∈ ownL po mf mn vs vw fb, w.heap.size ≤ b ∧ b < w14.heap.size := fun b hb => by
    rcases hmemO b hb with h3 | h3
    · have := hown b h3; have := hlt b h3; omega
    · have := a8 b h3; omega
  refine ⟨_, ⟨mf, mn, w12.heap.size, fb, vs, vw, [], [], e, ?_, rfl⟩, fun b hb => (hgE b hb).1, hbf⟩
  exact {
    cells := by simpa [DSt.ofFiles] using hcell
    filesM := hc34.map a4 (by omega)
    namesM := by
      have := hc34.map a6 (by omega)
      show w14.ownsMap _ _ _ mn ((L.map fun p => (p.1, D p.2)).zipIdx.map fun p => (p.1.1, p.2)).length (nameD ((L.map fun p => (p.1, D p.2)).zipIdx.map fun p => (p.1.1, p.2)))
      rw [nums_of, nums_len]; exact this
    sureM := by
      have := hc4.map hm13 (by omega)
      show w14.ownsMap _ _ _ _ ((L.map fun p => (p.1, D p.2)).zipIdx.map fun p => (p.1.1, p.2)).length (nameD ((L.map fun p => (p.1, D p.2)).zipIdx.map fun p => (p.1.1, p.2)))
      rw [nums_of, nums_len]; exact this
    count := by rw [files_of]; simpa using a5
    file := fun i b d hb hd => by
      rw [files_of, List.getElem?_map] at hd
      obtain ⟨q, hq, rfl⟩ := Option.map_eq_some_iff.1 hd
      exact (a7 i b q hb hq).kept hc34 hRDpo hRDok (hfpo b (List.mem_of_getElem? hb))
    stepsR := hc14.row hE.stepsR (fun k hk => by have := n3 k hk; have := m3 k hk; have := hvmf k hk; omega)
    step := fun i v x hv => by simp at hv
    writesR := hc14.row hE.writesR (fun k hk => by have := n4 k hk; have := m4 k hk; have := hwmf k hk; omega)
    count4 := rfl
    write := fun i c x hc => by simp at hc
    apart := by
      have ha := hE.apart
      have h8 : ∀ b ∈ fb, b ∉ ownL po mf mn vs vw [] := fun b hb hm => by have := a8 b hb; have := hlt b hm; omega
      simp only [ownL, List.nodup_cons, List.mem_cons, List.mem_append, List.nodup_append, List.append_nil, Option.mem_toList] at ha h8 ⊢
      grind
    own := fun b hb => ⟨(hgE b hb).2, fun h => by
      rcases h with h | h
      · have := hRs b h; have := hgE b hb; omega
      · exact h.2.2 hb⟩
    shared := fun b hb => by
      rcases hb with h | h
      · have := hRs b h; have := hbf.size; omega
      · exact h.2.1
    sureR := .inr ⟨by omega, by omega, fun hm => by
      rcases hmemO _ hm with h3 | h3
      · have := hlt _ h3; omega
      · have := a8 _ h3; omega⟩ }

/-- kept writes, as they lie and as they are -/
theorem keptP_snd {s : DSt} {L : NL} {keep : List Bool} {ps : List (Wv × Wr)} (e : s.writes = ps.map (·.2)) (k : Nat) : (keptP L keep ps k).map (·.2) = keptW s L keep k := by
  unfold keptP keptW
  rw [e, List.zipIdx_map, ← List.map_take, List.filter_map, List.map_map, List.map_map]
  rfl
theorem keptP_mem {L : NL} {keep : List Bool} {ps : List (Wv × Wr)} {k : Nat} {q : Wv × Wr} (h : q ∈ keptP L keep ps k) : q ∈ ps ∧ leadsTo L q.2.file = true := by
  unfold keptP at h
  obtain ⟨x, hx, rfl⟩ := List.mem_map.1 h
  obtain ⟨h1, h2⟩ := List.mem_filter.1 hx
  have h3 := List.mem_of_mem_take h1
  obtain ⟨h4, h5, h6⟩ := List.mem_zipIdx h3
  simp only [Bool.and_eq_true] at h2
  exact ⟨by rw [h6]; exact List.getElem_mem _, h2.1⟩
theorem lastW_lt {K : List Wr} : ∀ {n k : Nat}, lastW K n = some k → k < n
  | 0, k, h => by cases h
  | n + 1, k, h => by
    unfold lastW at h
    split at h
    · have := lastW_lt h; omega
    · cases h; omega
theorem DSt.Ok.lasts_le {s : DSt} {N : Nat} (h : s.Ok N) (n : Nat) : (s.lasts n).length ≤ maxFile := by
  unfold DSt.lasts
  rw [List.getD_eq_getElem?_getD]
  cases hg : s.files[n]? with
  | none => simp
  | some d => exact (h.files d (List.mem_of_getElem? hg)).2
theorem wv_cut {w : World} {R : Nat → Prop} {q : Wv × Wr} (h : WrIn w R (encW q.1) q.2) : q.1.2.2.1 = q.2.cut := by
  obtain ⟨⟨xf, xs, xc, xF, xC⟩, y⟩ := q
  obtain ⟨f, hf, _⟩ := h
  unfold encW at hf
  simp at hf
  exact hf.2.2.1

end Go.Proofs.YtlmdpcaikhdenaaGreat
