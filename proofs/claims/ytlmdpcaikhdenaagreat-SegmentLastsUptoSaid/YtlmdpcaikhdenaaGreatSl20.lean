/- Texts of this claim, one behind the other: DlB. -/
import Derived.Test.YtlmdpcaikhdenaaGreatSl19
import Derived.BigRegion
import Derived.Deep.CutRange
set_option linter.unusedSimpArgs false
set_option linter.unusedVariables false
/- Disk: Stop: the fifth loop: the kept writes are laid. -/
namespace Go.Proofs.YtlmdpcaikhdenaaGreat
open Go.RowKit Go.Maps Go.Shelf
attribute [local go_sem] run_store_func

/-- the blocks of bytes: those of the disk, and new ones -/
def RB (R : Nat → Prop) (w0 w : World) : Nat → Prop := fun b => R b ∨ (w0.heap.size ≤ b ∧ b < w.heap.size)

set_option maxRecDepth 1000000 in
set_option maxHeartbeats 8000000 in
theorem stop_loop5 {w w0 : World} {p : Nat} {s : DSt} {R : Nat → Prop} (hR : ∀ b, R b → b < w.heap.size) {L : NL}
    {bs ml md nd : Nat} {names torn : Int} (htorn : torn < 9223372036854775808) {ka : Option Addr} {kl kc : Nat} {last : Option Nat} {v : Value} {kp : List (Wv × Wr)} (hlast : ∀ k, last = some k → k < 4194304)
    (h1 : w.heap.size ≤ md) (_h2 : w.heap.size ≤ ml) (_h3 : w.heap.size ≤ bs) (h4 : md ≠ bs) (h5 : md ≠ ml) (h6 : v.ownBlock ≠ some md) (hb0 : Below w.heap.size w w0)
    (hbs : w0.heap[bs]? = some (.cells #[.int .i64 names, .slice ka kl kc, .int .i64 torn] 38 (0, 0))) (hm0 : w0.ownsMap Tryz.prog 9 (plainElem Tryz.prog 3) ml L.length (nameD L))
    {g0 : Nat → Option Value} (hd0 : DatMap w0 md nd g0) (hg1 : ∀ f, (g0 f).isSome = leadsTo L f) (hg2 : ∀ f u, g0 f = some u → BytesIn w0 R u (s.lasts f)) (hnd : nd ≤ 8388608)
    (hls : ∀ f, (s.lasts f).length ≤ maxFile) (hkw : ∀ q ∈ kp, q.1.1 = q.2.file ∧ WrIn w R (encW q.1) q.2 ∧ leadsTo L q.2.file = true ∧ q.2.place + q.2.data.length ≤ maxFile) (hkn : kp.length ≤ maxList) (hfl : ∀ q ∈ kp, q.2.file < maxList)
    (hv : KeptV w0 v (kp.map (·.1)))
    {Q0 : Exit → Act → World → Prop} (c1 c2 c6 c7 c9 c10 c12 c13 c14 c15 c20 c21 c22 c23 c24 c25 c26 c27 c28 c29 c30 c31 c32 c33 c34 c35 c36 c37 c38 c39 c40 c41 c42 c43 c44 c45 c46 c47 c48 c49 c50 c51 c52 c53 c54 c55 c56 c57 c58 c59 c60 c61 c62 c63 c64 c65 c66 c67 c68 c69 c70 c71 c72 c73 c74 c75 c76 c77 c78 c79 c80 c81 c82 c83 c84 c85 c86 c87 c88 c89 c90 c91 c92 c93 c94 c95 c96 c97 c98 c99 c100 c101 c102 c103 c104 c105 c106 c107 c108 c109 c110 c111 c112 c113 c114 c115 c116 c117 c118 c119 c120 c121 c122 c123 c124 c125 c159 c160 c161 c162 c163 c164 c165 c166 c167 c168 c169 c170 c171 c172 c173 c174 c175 c176 c177 c178 c179 c180 c181 c182 c183 c184 c185 c186 c187 c188 c189 c190 c191 c192 c193 c194 c195 c196 c197 c198 c199 c200 c201 c202 c203 c204 c205 c206 c207 c208 c209 c210 c211 c212 u17 u18 u19 u129 u130 u131 u132 u133 u134 u135 u136 u137 u138 u139 u140 u141 u142 u143 u144 u145 u146 u147 u148 u149 u150 u151 u152 u153 u154 u155 u156 u157 u158 : Value)
    (hexit : ∀ (u17 u18 u19 u128 u129 u130 u131 u132 u133 u134 u135 u136 u137 u138 u139 u140 u141 u142 u143 u144 u145 u146 u147 u148 u149 u150 u151 u152 u153 u154 u155 u156 u157 u158 : Value) (w' : World) (g : Nat → Option Value) (n' : Nat), Below w.heap.size w w' → w0.heap.size ≤ w'.heap.size → w'.ownsMap Tryz.prog 9 (plainElem Tryz.prog 3) ml L.length (nameD L) → DatMap w' md n' g → n' ≤ 16777216 → (∀ f, (g f).isSome = leadsTo L f) → (∀ f u, g f = some u → BytesIn w' (RB R w0 w') u (dataW s (kp.map (·.2)) last torn kp.length f)) →
      Q0 (.exit 8) ⟨(.pointer (some ⟨p, 0, none⟩) :: c1 :: c2 :: .pointer (some ⟨bs, 0, none⟩) :: .pointer none :: .map (some ml) :: c6 :: c7 :: .map (some md) :: c9 :: c10 :: v :: c12 :: c13 :: c14 :: c15 :: .int .i64 (lastI last) :: u17 :: u18 :: u19 :: c20 :: c21 :: c22 :: c23 :: c24 :: c25 :: c26 :: c27 :: c28 :: c29 :: c30 :: c31 :: c32 :: c33 :: c34 :: c35 :: c36 :: c37 :: c38 :: c39 :: c40 :: c41 :: c42 :: c43 :: c44 :: c45 :: c46 :: c47 :: c48 :: c49 :: c50 :: c51 :: c52 :: c53 :: c54 :: c55 :: c56 :: c57 :: c58 :: c59 :: c60 :: c61 :: c62 :: c63 :: c64 :: c65 :: c66 :: c67 :: c68 :: c69 :: c70 :: c71 :: c72 :: c73 :: c74 :: c75 :: c76 :: c77 :: c78 :: c79 :: c80 :: c81 :: c82 :: c83 :: c84 :: c85 :: c86 :: c87 :: c88 :: c89 :: c90 :: c91 :: c92 :: c93 :: c94 :: c95 :: c96 :: c97 :: c98 :: c99 :: c100 :: c101 :: c102 :: c103 :: c104 :: c105 :: c106 :: c107 :: c108 :: c109 :: c110 :: c111 :: c112 :: c113 :: c114 :: c115 :: c116 :: c117 :: c118 :: c119 :: c120 :: c121 :: c122 :: c123 :: c124 :: c125 :: v :: .int .i64 (kp.length : Int) :: u128 :: u129 :: u130 :: u131 :: u132 :: u133 :: u134 :: u135 :: u136 :: u137 :: u138 :: u139 :: u140 :: u141 :: u142 :: u143 :: u144 :: u145 :: u146 :: u147 :: u148 :: u149 :: u150 :: u151 :: u152 :: u153 :: u154 :: u155 :: u156 :: u157 :: u158 :: c159 :: c160 :: c161 :: c162 :: c163 :: c164 :: c165 :: c166 :: c167 :: c168 :: c169 :: c170 :: c171 :: c172 :: c173 :: c174 :: c175 :: c176 :: c177 :: c178 :: c179 :: c180 :: c181 :: c182 :: c183 :: c184 :: c185 :: c186 :: c187 :: c188 :: c189 :: c190 :: c191 :: c192 :: c193 :: c194 :: c195 :: c196 :: c197 :: c198 :: c199 :: c200 :: c201 :: c202 :: c203 :: c204 :: c205 :: c206 :: c207 :: c208 :: c209 :: c210 :: c211 :: c212 :: ([] : List Value)).toArray, []⟩ w') :
    Code.wp Tryz.prog (Code.loop (stopLoop 4)) Q0 ⟨(.pointer (some ⟨p, 0, none⟩) :: c1 :: c2 :: .pointer (some ⟨bs, 0, none⟩) :: .pointer none :: .map (some ml) :: c6 :: c7 :: .map (some md) :: c9 :: c10 :: v :: c12 :: c13 :: c14 :: c15 :: .int .i64 (lastI last) :: u17 :: u18 :: u19 :: c20 :: c21 :: c22 :: c23 :: c24 :: c25 :: c26 :: c27 :: c28 :: c29 :: c30 :: c31 :: c32 :: c33 :: c34 :: c35 :: c36 :: c37 :: c38 :: c39 :: c40 :: c41 :: c42 :: c43 :: c44 :: c45 :: c46 :: c47 :: c48 :: c49 :: c50 :: c51 :: c52 :: c53 :: c54 :: c55 :: c56 :: c57 :: c58 :: c59 :: c60 :: c61 :: c62 :: c63 :: c64 :: c65 :: c66 :: c67 :: c68 :: c69 :: c70 :: c71 :: c72 :: c73 :: c74 :: c75 :: c76 :: c77 :: c78 :: c79 :: c80 :: c81 :: c82 :: c83 :: c84 :: c85 :: c86 :: c87 :: c88 :: c89 :: c90 :: c91 :: c92 :: c93 :: c94 :: c95 :: c96 :: c97 :: c98 :: c99 :: c100 :: c101 :: c102 :: c103 :: c104 :: c105 :: c106 :: c107 :: c108 :: c109 :: c110 :: c111 :: c112 :: c113 :: c114 :: c115 :: c116 :: c117 :: c118 :: c119 :: c120 :: c121 :: c122 :: c123 :: c124 :: c125 :: v :: .int .i64 (kp.length : Int) :: .int .i64 0 :: u129 :: u130 :: u131 :: u132 :: u133 :: u134 :: u135 :: u136 :: u137 :: u138 :: u139 :: u140 :: u141 :: u142 :: u143 :: u144 :: u145 :: u146 :: u147 :: u148 :: u149 :: u150 :: u151 :: u152 :: u153 :: u154 :: u155 :: u156 :: u157 :: u158 :: c159 :: c160 :: c161 :: c162 :: c163 :: c164 :: c165 :: c166 :: c167 :: c168 :: c169 :: c170 :: c171 :: c172 :: c173 :: c174 :: c175 :: c176 :: c177 :: c178 :: c179 :: c180 :: c181 :: c182 :: c183 :: c184 :: c185 :: c186 :: c187 :: c188 :: c189 :: c190 :: c191 :: c192 :: c193 :: c194 :: c195 :: c196 :: c197 :: c198 :: c199 :: c200 :: c201 :: c202 :: c203 :: c204 :: c205 :: c206 :: c207 :: c208 :: c209 :: c210 :: c211 :: c212 :: ([] : List Value)).toArray, []⟩ w0 := by
  have hmx : maxList = 4194304 := rfl
  have hmfl : maxFile = 1099511627776 := rfl
  have hmax : maxLen = 9223372036854775807 := rfl
  obtain ⟨va, vc, rfl, hat0⟩ := hv
  rw [List.length_map] at *
  conv => arg 2; arg 1; whnf
  go_loopw [128] (fun i wr => ∃ (k : Nat) (g : Nat → Option Value), k ≤ kp.length ∧ i = .int .i64 k ∧ w0.heap.size ≤ wr.heap.size ∧ Below w.heap.size w wr ∧ Chg (· = md) w0 wr ∧ DatMap wr md (nd + k) g ∧ (∀ f, (g f).isSome = leadsTo L f) ∧ (∀ f u, g f = some u → BytesIn wr (RB R w0 wr) u (dataW s (kp.map (·.2)) last torn k f))) (fun i _ => kp.length - (RowKit.intOf i).toNat)
  case atStart => exact ⟨0, g0, by omega, rfl, Nat.le_refl _, hb0, Chg.refl _ _, hd0, hg1, fun f u hu => (hg2 f u hu).mono (fun b hb => .inl hb)⟩
  case round =>
    obtain ⟨k, g, hk, rfl, hsz0, hb, hc0, hg, hgs, hgb⟩ := hrel
    by_cases hlt : k < kp.length
    · obtain ⟨q, hq⟩ : ∃ q, kp[k]? = some q := ⟨kp[k]'(by omega), by simp⟩
      obtain ⟨gw, cur, tt, rfl, hgw0, hcu⟩ := hat0 k q.1 (by simp [hq])
      have hgwr := hc0.obj hgw0 (fun e => h6 (by rw [e]; rfl))
      obtain ⟨hqf, hqw, hql, hqp⟩ := hkw q (List.mem_of_getElem? hq)
      have hqfl := hfl q (List.mem_of_getElem? hq)
      have hstep : ∀ f, dataW s (kp.map (·.2)) last torn (k + 1) f = if q.2.file = f then laid (dataW s (kp.map (·.2)) last torn k f) q.2 (sizeW last torn k q.2) else dataW s (kp.map (·.2)) last torn k f := fun f => by
        simp [dataW, hq]
      have hdl := dataW_len (s := s) (K := kp.map (·.2)) (last := last) (torn := torn) (m := maxFile) hls (fun x hx => by obtain ⟨y, hy, rfl⟩ := List.mem_map.1 hx; exact (hkw y hy).2.2.2) k
      obtain ⟨⟨xf, xs, xc, xF, xC⟩, y⟩ := q
      simp only at hqf hqw hql hqp hqfl hstep hcu
      subst hqf
      obtain ⟨fn, hfn, hlay⟩ := hqw
      obtain ⟨rfl, rfl, rfl⟩ : xs = y.data.length ∧ xc = y.cut ∧ Value.func (.func xF) #[] xC = fn := by
        unfold encW at hfn
        simp at hfn
        exact ⟨by omega, hfn.2.1, hfn.2.2⟩
      have q0 := cell_of_heap hgwr (i := k * 4) (v := .int .i64 (y.file : Int)) (by have := hcu 0 _ rfl; simpa using this)
      have q1 := cell_of_heap hgwr (i := k * 4 + 1) (v := .int .i64 (y.data.length : Int)) (by have := hcu 1 _ rfl; simpa using this)
      have q2 := cell_of_heap hgwr (i := k * 4 + 2) (v := .bool y.cut) (by have := hcu 2 _ rfl; simpa using this)
      have q3 := cell_of_heap hgwr (i := k * 4 + 3) (v := .func (.func xF) #[] xC) (by have := hcu 3 _ rfl; simpa using this)
      have j0 : (0 : Int) ≤ (k : Int) := by omega
      have j1 : (k : Int) < (kp.length : Int) := by omega
      obtain ⟨W2, hW2⟩ : ∃ W2, wr.alloc (.cells #[.int .i64 (y.file : Int), .int .i64 (y.data.length : Int), .bool y.cut, .func (.func xF) #[] xC] 125) = W2 := ⟨_, rfl⟩
      have hc2 : Chg (fun _ => False) wr W2 := by rw [← hW2]; exact Chg.alloc _ _ _
      have hbw : W2.heap[wr.heap.size]? = some (.cells #[.int .i64 (y.file : Int), .int .i64 (y.data.length : Int), .bool y.cut, .func (.func xF) #[] xC] 125 (0, 0)) := by rw [← hW2]; exact World.alloc_heap_new wr _
      have hz2' : W2.heap.size = wr.heap.size + 1 := by rw [← hW2]; simp
      have d0 := cell_of_heap hbw (i := 0) (v := .int .i64 (y.file : Int)) (by rfl)
      have d1 := cell_of_heap hbw (i := 1) (v := .int .i64 (y.data.length : Int)) (by rfl)
      have d2 := cell_of_heap hbw (i := 2) (v := .bool y.cut) (by rfl)
      have d3 := cell_of_heap hbw (i := 3) (v := .func (.func xF) #[] xC) (by rfl)
      have hb2 : Below w.heap.size w W2 := hb.trans ⟨hc2.os, hc2.tape, hc2.output, hc2.size, fun y hy => hc2.block y (by have := hb.size; omega) (fun h => h)⟩
      have hbs2 := hc2.obj (hc0.obj hbs (fun e => h4 e.symm)) (fun h => h)
      have b2 := cell_of_heap hbs2 (i := 2) (v := .int .i64 torn) (by rfl)
      have hg' := hg.of_chg hc2 (fun h => h)
      obtain ⟨u, hu⟩ := Option.isSome_iff_exists.1 ((hgs y.file).trans hql)
      have hub := (hgb y.file u hu).kept hc2 (fun _ _ h => h) (fun _ h => h)
      obtain ⟨ua, uc, rfl, _⟩ := hub.row
      have hlk : ∀ q, (Instr.lookup 119 (.map (some md)) (.int .i64 (y.file : Int)) false).run Tryz.prog (W2.drewN q) = .ok (.slice ua (dataW s (kp.map (·.2)) last torn k y.file).length uc) (W2.drewN q) := fun q => DatMap.look (W := W2.drewN q) (hg'.of_chg ((Chg.refl (fun _ => False) W2).drewN q) (fun h => h)) (by omega) hu
      have hlk2 : (Instr.lookup 119 (.map (some md)) (.int .i64 (y.file : Int)) false).run Tryz.prog W2.drew = .ok (.slice ua (dataW s (kp.map (·.2)) last torn k y.file).length uc) W2.drew := hlk 1
      have hlay2 := (hlay.kept (R' := RB R w0 wr) (Chg.of_below (O := fun _ => False) hb2) (fun _ _ h => h) (fun _ h => .inl h)).kept ((Chg.refl (fun _ => False) W2).drew) (fun _ _ h => h) (fun _ h => h)
      have hub2 := hub.kept ((Chg.refl (fun _ => False) W2).drew) (fun _ _ h => h) (fun _ h => h)
      have hRl : ∀ b, RB R w0 wr b → b < W2.drew.heap.size := by
        have e1 : W2.drew.heap.size = W2.heap.size := rfl
        have := hb.size
        rintro b (hb | hb)
        · have := hR b hb; omega
        · omega
      have hlays := fun n hn => wr_lays hlay2 hub2 (n := n) (hdl y.file) hqp hn hRl
      have hgd := hg'.of_chg ((Chg.refl (fun _ => False) W2).drew) (fun h => h)
      have hmdl := hd0.lt
      have dd0 : W2.drew.cell? ⟨wr.heap.size, 0, none⟩ = some (.int .i64 (y.file : Int)) := d0
      have hwl : wr.heap.size < W2.drew.heap.size := heap_lt hbw
      have hw2 : W2.drew.heap.size = wr.heap.size + 1 := hz2'
      have hEQ : ∀ w4 w5 n ua' uc', sizeW last torn k y = n → BytesIn w4 (fun b => RB R w0 wr b ∨ NewIn W2.drew w4 b) (.slice ua' (laid (dataW s (kp.map (·.2)) last torn k y.file) y n).length uc') (laid (dataW s (kp.map (·.2)) last torn k y.file) y n) → Below W2.drew.heap.size W2.drew w4 → DatMap w5 md (nd + k + 1) (fun x => if x = y.file then some (.slice ua' (laid (dataW s (kp.map (·.2)) last torn k y.file) y n).length uc') else g x) → Chg (· = md) w4 w5 →
          ∃ (k' : Nat) (g : Nat → Option Value), k' ≤ kp.length ∧ (.int .i64 ((k : Int) + 1) : Value) = .int .i64 k' ∧ w0.heap.size ≤ w5.heap.size ∧ Below w.heap.size w w5 ∧ Chg (· = md) w0 w5 ∧ DatMap w5 md (nd + k') g ∧ (∀ f, (g f).isSome = leadsTo L f) ∧ (∀ f u, g f = some u → BytesIn w5 (RB R w0 w5) u (dataW s (kp.map (·.2)) last torn k' f)) := by
        intro w4 w5 n ua' uc' hn hu4 hb4 hg5 hc5
        have hcA : Chg (· = md) wr w4 := ((hc2.mono (O' := (· = md)) (fun _ h _ => h.elim)).trans ((Chg.refl (· = md) W2).drew) (fun _ h _ => h)).trans (Chg.of_below (O := (· = md)) hb4) (fun _ h _ => h)
        have hcB : Chg (· = md) wr w5 := hcA.trans hc5 (fun _ h _ => h)
        have hs4 := hb4.size
        have hs5 := hc5.size
        refine ⟨k + 1, _, by omega, by go_num, Nat.le_trans hsz0 hcB.size, hb.trans ⟨hcB.os, hcB.tape, hcB.output, hcB.size, fun x hx => hcB.block x (by have := hb.size; omega) (by have := hb.size; omega)⟩, hc0.trans hcB (fun _ h _ => h), hg5, fun f => ?_, fun f u hfu => ?_⟩
        · by_cases hf : f = y.file
          · subst hf; simp [hql]
          · simp [hf, hgs]
        · rw [hstep, hn]
          by_cases hf : f = y.file
          · subst hf
            simp at hfu
            subst hfu
            simp only [if_true]
            refine (hu4.kept (R' := RB R w0 w5) hc5 ?_ ?_)
            · rintro b ((hb' | hb') | hb')
              · have := hR b hb'; omega
              · omega
              · have := hb'.1; omega
            · rintro b ((hb' | hb') | hb')
              · exact .inl hb'
              · exact .inr ⟨hb'.1, by omega⟩
              · exact .inr ⟨by have := hb'.1; omega, by have := hb'.2; omega⟩
          · simp [hf] at hfu
            rw [if_neg (fun e => hf e.symm)]
            refine (hgb f u hfu).kept hcB ?_ ?_
            · rintro b (hb' | hb')
              · have := hR b hb'; omega
              · omega
            · rintro b (hb' | hb')
              · exact .inl hb'
              · exact .inr ⟨hb'.1, by have := hcB.size; omega⟩
      have HEQ := Lib.hid hEQ; clear hEQ
      clear hstep hcu hgs hgb hg' hub hub2 hlay hlay2 hdl hkw hfl hls hg1 hg2 hat0 hlk
      have hki : ((k : Int) == lastI last) = decide (last = some k) := by
        cases last with
        | none => simp [lastI]
        | some m => simp [lastI]; rw [Bool.eq_iff_iff]; simp; omega
      have HSZ := Lib.hid hz2'; clear hz2'
      have HW2 := Lib.hid hw2; clear hw2
      obtain ⟨n, hn⟩ : ∃ n, sizeW last torn k y = n := ⟨_, rfl⟩
      have hn3 : n ≤ y.data.length := by rw [← hn]; exact sizeW_le _ _ _ _
      have HN := Lib.hid hn; clear hn
      obtain ⟨tb, htb⟩ : ∃ tb, (decide (last = some k) && decide (0 ≤ torn)) = tb := ⟨_, rfl⟩
      go_upto_region 29 with fail
      go_cut [17, 18, 19, 128, 142] from 128 to 158 (fun s17 s18 s19 s128 s142 wx => s17 = .int .i64 (k : Int) ∧ s18 = .pointer (some ⟨wr.heap.size, 0, none⟩) ∧ s19 = .int .i64 (y.data.length : Int) ∧ s128 = .int .i64 (k : Int) ∧ s142 = .bool tb ∧ W2 = wx)
      case first =>
        by_cases hla : last = some k
        · rw [decide_eq_true hla] at hki htb
          by_cases hto : 0 ≤ torn
          · have hto' : decide (0 ≤ torn) = true := by simpa using hto
            rw [hto'] at htb
            clear hla
            subst htb
            go_wp2
            go_meet
            case rel => exact ⟨rfl, rfl, rfl, rfl, rfl, rfl⟩
          · have hto' : decide (0 ≤ torn) = false := by simpa using hto
            rw [hto'] at htb
            clear hla
            subst htb
            go_wp2
            go_meet
            case rel => exact ⟨rfl, rfl, rfl, rfl, rfl, rfl⟩
        · rw [decide_eq_false hla] at hki htb
          clear hla
          subst htb
          go_wp2
          go_meet
          case rel => exact ⟨rfl, rfl, rfl, rfl, rfl, rfl⟩
      case rest =>
      obtain ⟨h17, h18, h19, h128, h142, hwx⟩ := hcut
      subst h17 h18 h19 h128 h142 hwx
      have HTB := Lib.hid htb; clear htb hki
      go_upto_if 142 with fail
      go_cut [17, 18, 19, 128] from 128 to 158 (fun s17 s18 s19 s128 wx => s17 = .int .i64 (k : Int) ∧ s18 = .pointer (some ⟨wr.heap.size, 0, none⟩) ∧ s19 = .int .i64 (n : Int) ∧ s128 = .int .i64 (k : Int) ∧ W2 = wx)
      case first =>
        cases tb with
        | true =>
          have hn2 : min (y.data.length : Int) torn = (n : Int) := by
            have h1 := HTB.out
            simp only [Bool.and_eq_true, decide_eq_true_eq] at h1
            rw [← HN.out]; unfold sizeW; rw [if_pos h1]; omega
          go_wp2
          go_meet
          case rel => exact ⟨rfl, rfl, rfl, rfl, rfl⟩
        | false =>
          have hn1 : n = y.data.length := by
            have h1 := HTB.out
            rw [← HN.out]; unfold sizeW
            rw [if_neg (fun h => by rw [decide_eq_true h.1, decide_eq_true h.2] at h1; cases h1)]
          subst hn1
          go_wp2
          go_meet
          case rel => exact ⟨rfl, rfl, rfl, rfl, rfl⟩
      case rest =>
        obtain ⟨h17, h18, h19, h128, hwx⟩ := hcut
        subst h17 h18 h19 h128 hwx
        obtain ⟨N, caps, eN, henter, hcall⟩ := hlays n hn3
        obtain ⟨rfl, rfl⟩ : xF = N ∧ xC = caps := by simpa using eN
        unfold enters at henter
        go_wp2
        refine wp_onlyN (fun a w5 => ∀ Kc : Act → World → Prop, (∀ (u17 u18 u19 u129 u130 u131 u132 u133 u134 u135 u136 u137 u138 u139 u140 u141 u142 u143 u144 u145 u146 u147 u148 u149 u150 u151 u152 u153 u154 u155 u156 u157 u158 : Value), (∃ (k' : Nat) (g : Nat → Option Value), k' ≤ kp.length ∧ (.int .i64 ((k : Int) + 1) : Value) = .int .i64 k' ∧ w0.heap.size ≤ w5.heap.size ∧ Below w.heap.size w w5 ∧ Chg (· = md) w0 w5 ∧ DatMap w5 md (nd + k') g ∧ (∀ f, (g f).isSome = leadsTo L f) ∧ (∀ f u, g f = some u → BytesIn w5 (RB R w0 w5) u (dataW s (kp.map (·.2)) last torn k' f))) → Kc ⟨(.pointer (some ⟨p, 0, none⟩) :: c1 :: c2 :: .pointer (some ⟨bs, 0, none⟩) :: .pointer none :: .map (some ml) :: c6 :: c7 :: .map (some md) :: c9 :: c10 :: .slice (some ⟨gw, 0, none⟩) kp.length vc :: c12 :: c13 :: c14 :: c15 :: .int .i64 (lastI last) :: u17 :: u18 :: u19 :: c20 :: c21 :: c22 :: c23 :: c24 :: c25 :: c26 :: c27 :: c28 :: c29 :: c30 :: c31 :: c32 :: c33 :: c34 :: c35 :: c36 :: c37 :: c38 :: c39 :: c40 :: c41 :: c42 :: c43 :: c44 :: c45 :: c46 :: c47 :: c48 :: c49 :: c50 :: c51 :: c52 :: c53 :: c54 :: c55 :: c56 :: c57 :: c58 :: c59 :: c60 :: c61 :: c62 :: c63 :: c64 :: c65 :: c66 :: c67 :: c68 :: c69 :: c70 :: c71 :: c72 :: c73 :: c74 :: c75 :: c76 :: c77 :: c78 :: c79 :: c80 :: c81 :: c82 :: c83 :: c84 :: c85 :: c86 :: c87 :: c88 :: c89 :: c90 :: c91 :: c92 :: c93 :: c94 :: c95 :: c96 :: c97 :: c98 :: c99 :: c100 :: c101 :: c102 :: c103 :: c104 :: c105 :: c106 :: c107 :: c108 :: c109 :: c110 :: c111 :: c112 :: c113 :: c114 :: c115 :: c116 :: c117 :: c118 :: c119 :: c120 :: c121 :: c122 :: c123 :: c124 :: c125 :: .slice (some ⟨gw, 0, none⟩) kp.length vc :: .int .i64 (kp.length : Int) :: .int .i64 (k : Int) :: u129 :: u130 :: u131 :: u132 :: u133 :: u134 :: u135 :: u136 :: u137 :: u138 :: u139 :: u140 :: u141 :: u142 :: u143 :: u144 :: u145 :: u146 :: u147 :: u148 :: u149 :: u150 :: u151 :: u152 :: u153 :: u154 :: u155 :: u156 :: u157 :: u158 :: c159 :: c160 :: c161 :: c162 :: c163 :: c164 :: c165 :: c166 :: c167 :: c168 :: c169 :: c170 :: c171 :: c172 :: c173 :: c174 :: c175 :: c176 :: c177 :: c178 :: c179 :: c180 :: c181 :: c182 :: c183 :: c184 :: c185 :: c186 :: c187 :: c188 :: c189 :: c190 :: c191 :: c192 :: c193 :: c194 :: c195 :: c196 :: c197 :: c198 :: c199 :: c200 :: c201 :: c202 :: c203 :: c204 :: c205 :: c206 :: c207 :: c208 :: c209 :: c210 :: c211 :: c212 :: ([] : List Value)).toArray, []⟩ w5) → Kc a w5) ?_ (fun a w5 h5 => h5 _ (fun u17 u18 u19 u129 u130 u131 u132 u133 u134 u135 u136 u137 u138 u139 u140 u141 u142 u143 u144 u145 u146 u147 u148 u149 u150 u151 u152 u153 u154 u155 u156 u157 u158 hrel5 => ?_))
        · go_region_law (first | (go_simp; refine hcall.mono ?_; rintro _ w4 ⟨u4, rfl, hu4, hb4⟩; obtain ⟨ua4, uc4, rfl, _⟩ := hu4.row; obtain ⟨y4, hy4⟩ := hu4.elem; have f4 := (hb4.cell (p := ⟨wr.heap.size, 0, none⟩) hwl).trans dd0; obtain ⟨w5, hst, hg5, hc5⟩ := (hgd.of_chg (Chg.of_below (O := fun _ => False) hb4) (fun h => h)).store (by omega) (f := y.file) (by omega) hy4))
          all_goals exact fun Kc hKc => hKc _ _ _ _ _ _ _ _ _ _ _ _ _ _ _ _ _ _ _ _ _ _ _ _ _ _ _ _ _ _ _ _ _ (HEQ.out _ _ _ _ _ HN.out hu4 hb4 hg5 hc5)
        · clear HEQ HN hbs2 q0 q1 q2 q3
          go_wp2
          go_roundw
          case rel => exact hrel5
          case measure => simp [RowKit.intOf]; omega
    · obtain rfl : k = kp.length := by omega
      go_wp2
      exact hexit _ _ _ _ _ _ _ _ _ _ _ _ _ _ _ _ _ _ _ _ _ _ _ _ _ _ _ _ _ _ _ _ _ _ wr g _ hb hsz0 (hc0.map hm0 (fun e => h5 e.symm)) hg (by omega) hgs hgb

end Go.Proofs.YtlmdpcaikhdenaaGreat
