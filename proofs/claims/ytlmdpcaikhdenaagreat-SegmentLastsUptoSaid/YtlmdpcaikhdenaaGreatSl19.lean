/- Texts of this claim, one behind the other: DkZ, DlA, DlP. -/
import Derived.Test.YtlmdpcaikhdenaaGreatSl18
import Derived.Deep.AppendLies
import Derived.Test.YtlmdpcaikhdenaaGreatSl17
set_option linter.unusedSimpArgs false
set_option linter.unusedVariables false
/- Disk: Stop: the third loop: the writes that are kept. -/
namespace Go.Proofs.YtlmdpcaikhdenaaGreat
open Go.RowKit Go.Maps Go.Shelf
attribute [local go_sem] run_store_func

/-- the writes that are kept, among the first k -/
def keptP (L : NL) (keep : List Bool) (ps : List (Wv × Wr)) (k : Nat) : List (Wv × Wr) := ((ps.zipIdx.take k).filter fun q => leadsTo L q.1.2.file && keep.getD q.2 false).map (·.1)
theorem keptP_succ {L : NL} {keep : List Bool} {ps : List (Wv × Wr)} {k : Nat} {x : Wv × Wr} (hx : ps[k]? = some x) : keptP L keep ps (k + 1) = keptP L keep ps k ++ (if leadsTo L x.2.file && keep.getD k false then [x] else []) := by
  unfold keptP
  have hz : ps.zipIdx[k]? = some (x, k) := by simp [hx]
  rw [List.take_add_one, hz, List.filter_append, List.map_append]
  congr 1
  simp only [Option.toList_some, List.filter_cons, List.filter_nil]
  split <;> simp_all
theorem keptP_len (L : NL) (keep : List Bool) (ps : List (Wv × Wr)) (k : Nat) : (keptP L keep ps k).length ≤ k := by
  unfold keptP
  rw [List.length_map]
  exact Nat.le_trans (List.length_filter_le _ _) (by simp; omega)
theorem wv_one (f z : Nat) (c : Bool) (F : FuncId) (C : Array Value) : ∀ u ∈ [Value.int .i64 (f : Int), .int .i64 (z : Int), .bool c, .func (.func F) #[] C], u.oneCell' = true := by
  intro u hu; simp only [List.mem_cons, List.not_mem_nil, or_false] at hu; rcases hu with rfl | rfl | rfl | rfl <;> rfl

set_option maxRecDepth 1000000 in
set_option maxHeartbeats 4000000 in
theorem stop_loop3 {w w0 : World} {p : Nat} {s : DSt} {R : Nat → Prop} {mf mn ms : Nat} {fb : List Nat} {vs vw : Value} {ss : List Value} {ws : List (List Value)} {e : TypeId} (h : DiskP w p s R mf mn ms fb vs vw ss ws e) {N : Nat} (hok : s.Ok N) (hN : N < maxList)
    {bs ml md kb0 nd : Nat} {names torn : Int} {ka : Option Addr} {kc : Nat} {keep : List Bool} {L : NL} {g : Nat → Option Value} (hgL : ∀ f, (g f).isSome = leadsTo L f) (hkrow : RowAt w ka (keep.map Value.bool)) (hkeep : keep.length ≤ maxLen) (h1 : bs < kb0) (h2 : ml < kb0) (h3 : md < kb0) (hk0 : w.heap.size ≤ kb0) (hk00 : kb0 ≤ w0.heap.size) (hb0 : Below w.heap.size w w0)
    (hbs : w0.heap[bs]? = some (.cells #[.int .i64 names, .slice ka keep.length kc, .int .i64 torn] 38 (0, 0))) (hm0 : w0.ownsMap Tryz.prog 9 (plainElem Tryz.prog 3) ml L.length (nameD L)) (hg0 : DatMap w0 md nd g)
    {ps : List (Wv × Wr)} (e1 : ws = ps.map (fun p => encW p.1)) (e2 : s.writes = ps.map (·.2)) (e3 : ∀ p ∈ ps, p.1.1 = p.2.file ∧ WrIn w R (encW p.1) p.2) {v0 : Value} (hv0 : w0.ownsRow kb0 125 4 v0 0 [])
    {Q0 : Exit → Act → World → Prop} (c1 c2 c6 c7 c9 c10 c16 c17 c18 c19 c20 c21 c22 c23 c24 c25 c26 c27 c28 c29 c30 c31 c32 c33 c34 c35 c36 c37 c38 c39 c40 c41 c42 c43 c44 c45 c46 c47 c48 c49 c50 c51 c52 c53 c54 c55 c56 c57 c58 c59 c60 c61 c62 c63 c64 c65 c66 c67 c68 c69 c70 c71 c72 c73 c74 c75 c76 c77 c112 c113 c114 c115 c116 c117 c118 c119 c120 c121 c122 c123 c124 c125 c126 c127 c128 c129 c130 c131 c132 c133 c134 c135 c136 c137 c138 c139 c140 c141 c142 c143 c144 c145 c146 c147 c148 c149 c150 c151 c152 c153 c154 c155 c156 c157 c158 c159 c160 c161 c162 c163 c164 c165 c166 c167 c168 c169 c170 c171 c172 c173 c174 c175 c176 c177 c178 c179 c180 c181 c182 c183 c184 c185 c186 c187 c188 c189 c190 c191 c192 c193 c194 c195 c196 c197 c198 c199 c200 c201 c202 c203 c204 c205 c206 c207 c208 c209 c210 c211 c212 u12 u13 u14 u15 u81 u82 u83 u84 u85 u86 u87 u88 u89 u90 u91 u92 u93 u94 u95 u96 u97 u98 u99 u100 u101 u102 u103 u104 u105 u106 u107 u108 u109 u110 u111 : Value)
    (hexit : ∀ (u12 u13 u14 u15 u80 u81 u82 u83 u84 u85 u86 u87 u88 u89 u90 u91 u92 u93 u94 u95 u96 u97 u98 u99 u100 u101 u102 u103 u104 u105 u106 u107 u108 u109 u110 u111 v : Value) (w' : World), Below w.heap.size w w' → w'.heap[bs]? = some (.cells #[.int .i64 names, .slice ka keep.length kc, .int .i64 torn] 38 (0, 0)) → w'.ownsMap Tryz.prog 9 (plainElem Tryz.prog 3) ml L.length (nameD L) → DatMap w' md nd g → w'.ownsRow kb0 125 4 v (keptP L keep ps s.writes.length).length ((keptP L keep ps s.writes.length).map (fun q => encW q.1)).flatten →
      Q0 (.exit 4) ⟨(.pointer (some ⟨p, 0, none⟩) :: c1 :: c2 :: .pointer (some ⟨bs, 0, none⟩) :: .pointer none :: .map (some ml) :: c6 :: c7 :: .map (some md) :: c9 :: c10 :: v :: u12 :: u13 :: u14 :: u15 :: c16 :: c17 :: c18 :: c19 :: c20 :: c21 :: c22 :: c23 :: c24 :: c25 :: c26 :: c27 :: c28 :: c29 :: c30 :: c31 :: c32 :: c33 :: c34 :: c35 :: c36 :: c37 :: c38 :: c39 :: c40 :: c41 :: c42 :: c43 :: c44 :: c45 :: c46 :: c47 :: c48 :: c49 :: c50 :: c51 :: c52 :: c53 :: c54 :: c55 :: c56 :: c57 :: c58 :: c59 :: c60 :: c61 :: c62 :: c63 :: c64 :: c65 :: c66 :: c67 :: c68 :: c69 :: c70 :: c71 :: c72 :: c73 :: c74 :: c75 :: c76 :: c77 :: vw :: .int .i64 (s.writes.length : Int) :: u80 :: u81 :: u82 :: u83 :: u84 :: u85 :: u86 :: u87 :: u88 :: u89 :: u90 :: u91 :: u92 :: u93 :: u94 :: u95 :: u96 :: u97 :: u98 :: u99 :: u100 :: u101 :: u102 :: u103 :: u104 :: u105 :: u106 :: u107 :: u108 :: u109 :: u110 :: u111 :: c112 :: c113 :: c114 :: c115 :: c116 :: c117 :: c118 :: c119 :: c120 :: c121 :: c122 :: c123 :: c124 :: c125 :: c126 :: c127 :: c128 :: c129 :: c130 :: c131 :: c132 :: c133 :: c134 :: c135 :: c136 :: c137 :: c138 :: c139 :: c140 :: c141 :: c142 :: c143 :: c144 :: c145 :: c146 :: c147 :: c148 :: c149 :: c150 :: c151 :: c152 :: c153 :: c154 :: c155 :: c156 :: c157 :: c158 :: c159 :: c160 :: c161 :: c162 :: c163 :: c164 :: c165 :: c166 :: c167 :: c168 :: c169 :: c170 :: c171 :: c172 :: c173 :: c174 :: c175 :: c176 :: c177 :: c178 :: c179 :: c180 :: c181 :: c182 :: c183 :: c184 :: c185 :: c186 :: c187 :: c188 :: c189 :: c190 :: c191 :: c192 :: c193 :: c194 :: c195 :: c196 :: c197 :: c198 :: c199 :: c200 :: c201 :: c202 :: c203 :: c204 :: c205 :: c206 :: c207 :: c208 :: c209 :: c210 :: c211 :: c212 :: ([] : List Value)).toArray, []⟩ w') :
    Code.wp Tryz.prog (Code.loop (stopLoop 2)) Q0 ⟨(.pointer (some ⟨p, 0, none⟩) :: c1 :: c2 :: .pointer (some ⟨bs, 0, none⟩) :: .pointer none :: .map (some ml) :: c6 :: c7 :: .map (some md) :: c9 :: c10 :: v0 :: u12 :: u13 :: u14 :: u15 :: c16 :: c17 :: c18 :: c19 :: c20 :: c21 :: c22 :: c23 :: c24 :: c25 :: c26 :: c27 :: c28 :: c29 :: c30 :: c31 :: c32 :: c33 :: c34 :: c35 :: c36 :: c37 :: c38 :: c39 :: c40 :: c41 :: c42 :: c43 :: c44 :: c45 :: c46 :: c47 :: c48 :: c49 :: c50 :: c51 :: c52 :: c53 :: c54 :: c55 :: c56 :: c57 :: c58 :: c59 :: c60 :: c61 :: c62 :: c63 :: c64 :: c65 :: c66 :: c67 :: c68 :: c69 :: c70 :: c71 :: c72 :: c73 :: c74 :: c75 :: c76 :: c77 :: vw :: .int .i64 (s.writes.length : Int) :: .int .i64 0 :: u81 :: u82 :: u83 :: u84 :: u85 :: u86 :: u87 :: u88 :: u89 :: u90 :: u91 :: u92 :: u93 :: u94 :: u95 :: u96 :: u97 :: u98 :: u99 :: u100 :: u101 :: u102 :: u103 :: u104 :: u105 :: u106 :: u107 :: u108 :: u109 :: u110 :: u111 :: c112 :: c113 :: c114 :: c115 :: c116 :: c117 :: c118 :: c119 :: c120 :: c121 :: c122 :: c123 :: c124 :: c125 :: c126 :: c127 :: c128 :: c129 :: c130 :: c131 :: c132 :: c133 :: c134 :: c135 :: c136 :: c137 :: c138 :: c139 :: c140 :: c141 :: c142 :: c143 :: c144 :: c145 :: c146 :: c147 :: c148 :: c149 :: c150 :: c151 :: c152 :: c153 :: c154 :: c155 :: c156 :: c157 :: c158 :: c159 :: c160 :: c161 :: c162 :: c163 :: c164 :: c165 :: c166 :: c167 :: c168 :: c169 :: c170 :: c171 :: c172 :: c173 :: c174 :: c175 :: c176 :: c177 :: c178 :: c179 :: c180 :: c181 :: c182 :: c183 :: c184 :: c185 :: c186 :: c187 :: c188 :: c189 :: c190 :: c191 :: c192 :: c193 :: c194 :: c195 :: c196 :: c197 :: c198 :: c199 :: c200 :: c201 :: c202 :: c203 :: c204 :: c205 :: c206 :: c207 :: c208 :: c209 :: c210 :: c211 :: c212 :: ([] : List Value)).toArray, []⟩ w0 := by
  obtain ⟨i0, hi, hz0, hz1, hz2⟩ := info_parts Tryz.info125
  have hmx : maxList = 4194304 := rfl
  have hmax : maxLen = 9223372036854775807 := rfl
  have hmw := hok.manyWrites
  have hmf := hok.manyFiles
  have hpl : ps.length = s.writes.length := by rw [e2]; simp
  have E1 := Lib.hid e1; have E2 := Lib.hid e2; have HPL := Lib.hid hpl
  clear e1 e2 hpl
  conv => arg 2; arg 1; whnf
  go_loopw [80, 11] (fun i v wr => ∃ k : Nat, k ≤ s.writes.length ∧ i = .int .i64 k ∧ w0.heap.size ≤ wr.heap.size ∧ Below w.heap.size w wr ∧ wr.heap[bs]? = some (.cells #[.int .i64 names, .slice ka keep.length kc, .int .i64 torn] 38 (0, 0)) ∧ wr.ownsMap Tryz.prog 9 (plainElem Tryz.prog 3) ml L.length (nameD L) ∧ DatMap wr md nd g ∧ wr.ownsRow kb0 125 4 v (keptP L keep ps k).length ((keptP L keep ps k).map (fun q => encW q.1)).flatten) (fun i _ _ => s.writes.length - (RowKit.intOf i).toNat)
  case atStart => exact ⟨0, by omega, rfl, Nat.le_refl _, hb0, hbs, hm0, hg0, by simpa [keptP] using hv0⟩
  case round =>
    obtain ⟨k, hk, rfl, hsz0, hb, hbsr, hmr, hgr, hvr⟩ := hrel
    by_cases hlt : k < s.writes.length
    · obtain ⟨x, hx⟩ : ∃ x, ps[k]? = some x := ⟨ps[k]'(by have := HPL.out; omega), by simp⟩
      have hD := h.below hb
      have hsucc := keptP_succ (L := L) (keep := keep) hx
      have hxf := (e3 x (List.mem_of_getElem? hx)).1
      obtain ⟨⟨xf, xs, xc, xF, xC⟩, y⟩ := x
      simp only at hxf
      subst hxf
      obtain ⟨gw, capw, curw, hvw, hgw, hcells⟩ : ∃ gw capw curw, vw = .slice (some ⟨gw, 0, none⟩) s.writes.length capw ∧ wr.heap[gw]? = some (.cells curw 125 (0, 0)) ∧ CellsW curw.toList 0 (ps.map (·.1)) := by
        rcases hD.writesR.2 with ⟨_, hz⟩ | ⟨gw, cap, cur, hv, _, hgw, _, _, _, ht⟩
        · omega
        · refine ⟨gw, cap, cur, hv, hgw, cells_of_flat _ _ ?_⟩
          rw [E1.out] at ht
          rw [List.length_map, HPL.out, ht, List.map_map]; rfl
      subst hvw
      have hcc := hcells k (y.file, xs, xc, xF, xC) (by simp [hx])
      have q0 := cell_of_heap hgw (i := k * 4) (v := .int .i64 (y.file : Int)) (by have := hcc 0 _ rfl; simpa using this)
      have q1 := cell_of_heap hgw (i := k * 4 + 1) (v := .int .i64 (xs : Int)) (by have := hcc 1 _ rfl; simpa using this)
      have q2 := cell_of_heap hgw (i := k * 4 + 2) (v := .bool xc) (by have := hcc 2 _ rfl; simpa using this)
      have q3 := cell_of_heap hgw (i := k * 4 + 3) (v := .func (.func xF) #[] xC) (by have := hcc 3 _ rfl; simpa using this)
      have j0 : (0 : Int) ≤ (k : Int) := by omega
      have j1 : (k : Int) < (s.writes.length : Int) := by omega
      obtain ⟨W2, hW2⟩ : ∃ W2, wr.alloc (.cells #[.int .i64 (y.file : Int), .int .i64 (xs : Int), .bool xc, .func (.func xF) #[] xC] 125) = W2 := ⟨_, rfl⟩
      have hc2 : Chg (fun _ => False) wr W2 := by rw [← hW2]; exact Chg.alloc _ _ _
      have hbw : W2.heap[wr.heap.size]? = some (.cells #[.int .i64 (y.file : Int), .int .i64 (xs : Int), .bool xc, .func (.func xF) #[] xC] 125 (0, 0)) := by rw [← hW2]; exact World.alloc_heap_new wr _
      have hz2' : W2.heap.size = wr.heap.size + 1 := by rw [← hW2]; simp
      have d0 := cell_of_heap hbw (i := 0) (v := .int .i64 (y.file : Int)) (by rfl)
      have d1 := cell_of_heap hbw (i := 1) (v := .int .i64 (xs : Int)) (by rfl)
      have d2 := cell_of_heap hbw (i := 2) (v := .bool xc) (by rfl)
      have d3 := cell_of_heap hbw (i := 3) (v := .func (.func xF) #[] xC) (by rfl)
      have hb2 : Below w.heap.size w W2 := hb.trans ⟨hc2.os, hc2.tape, hc2.output, hc2.size, fun y hy => hc2.block y (by have := hb.size; omega) (fun h => h)⟩
      have hbs2 := hc2.obj hbsr (fun h => h)
      have hm2 := hc2.map hmr (fun h => h)
      have hg2 := hgr.of_chg hc2 (fun h => h)
      have hv2 := hc2.row hvr (fun _ _ h => h)
      have hyf : y.file < s.files.length := (hok.writes y (by rw [E2.out]; exact List.mem_map.2 ⟨_, List.mem_of_getElem? hx, rfl⟩)).1
      obtain ⟨la, lm, lc, hlk⟩ := hg2.look_ok (f := y.file) (by omega)
      rw [hgL] at hlk
      have b1 := cell_of_heap hbs2 (i := 1) (v := .slice ka keep.length kc) (by rfl)
      have HZ2 := Lib.hid hz2'; clear hz2'
      cases hlead : leadsTo L y.file with
      | false =>
        rw [hlead] at hlk
        have hnext : keptP L keep ps (k + 1) = keptP L keep ps k := by rw [hsucc]; simp [hlead]
        have HN := Lib.hid hnext; clear hnext hsucc hlead
        go_wp2
        go_roundw
        case rel => exact ⟨k + 1, by omega, by go_num, Nat.le_trans hsz0 hc2.size, hb2, hbs2, hm2, hg2, by rw [HN.out]; exact hv2⟩
        case measure => simp [RowKit.intOf]; omega
      | true =>
        rw [hlead] at hlk
        by_cases hkl : k < keep.length
        · obtain ⟨kb, ko, rfl, hkc⟩ := (hkrow.below hb2).at_ (k := k) (by simpa using hkl)
          simp only [List.getElem_map] at hkc
          have hkb : keep.getD k false = keep[k] := by simp [hkl]
          have j2 : (k : Int) < (keep.length : Int) := by omega
          rw [hlead, hkb, Bool.true_and] at hsucc
          clear hkb
          generalize keep[k] = bk at hsucc hkc
          cases bk with
          | false =>
            have hnext : keptP L keep ps (k + 1) = keptP L keep ps k := by rw [hsucc]; exact List.append_nil _
            have HN := Lib.hid hnext; clear hnext hsucc hlead
            go_wp2
            go_roundw
            case rel => exact ⟨k + 1, by omega, by go_num, Nat.le_trans hsz0 hc2.size, hb2, hbs2, hm2, hg2, by rw [HN.out]; exact hv2⟩
            case measure => simp [RowKit.intOf]; omega
          | true =>
            have hnext : keptP L keep ps (k + 1) = keptP L keep ps k ++ [((y.file, xs, xc, xF, xC), y)] := hsucc
            have hkl2 := keptP_len L keep ps k
            have HN := Lib.hid hnext; clear hnext hsucc hlead
            obtain ⟨m, hm⟩ : ∃ m, m = (keptP L keep ps k).length := ⟨_, rfl⟩
            obtain ⟨fl, hfl⟩ : ∃ fl, fl = ((keptP L keep ps k).map (fun q => encW q.1)).flatten := ⟨_, rfl⟩
            rw [← hm, ← hfl] at hv2
            have HM := Lib.hid hm; have HFL := Lib.hid hfl
            have hml2 : m ≤ 4194304 := by omega
            clear hm hfl hvr
            have hnew := World.news_of_block (World.alloc_heap_new W2 (.cells #[.int .i64 (y.file : Int), .int .i64 (xs : Int), .bool xc, .func (.func xF) #[] xC] 125))
            have hv3 := (Chg.alloc (fun _ => False) W2 (.cells #[.int .i64 (y.file : Int), .int .i64 (xs : Int), .bool xc, .func (.func xF) #[] xC] 125)).row hv2 (fun _ _ h => h)
            have hkW : kb0 ≤ W2.heap.size := Nat.le_trans hk00 (Nat.le_trans hsz0 hc2.size)
            have HNEW := Lib.hid hnew; clear hnew
            have HV3 := Lib.hid hv3; clear hv3
            go_wp2_with (at_builtin; refine wpList_append_lies _ rfl (.tmp 107) (.tmp 109) 111 rfl kb0 125 i0 _ 4 32 Tryz.underlying111 hi hz0 hz1 hz2 rfl (by decide) _ m fl rfl HV3.out ⟨W2.heap.size, 0, none⟩ 1 1 [.int .i64 (y.file : Int), .int .i64 (xs : Int), .bool xc, .func (.func xF) #[] xC] rfl rfl HNEW.out (wv_one _ _ _ _ _) (by decide) (by omega) (by omega) (by rw [World.size_alloc]; omega) (W2.heap.size + 1) (World.size_alloc _ _) ?_)
            intro g7 cap7 w7 hown7 hg7 hat7 hlt7
            have hvl : ∀ b, u11.ownBlock = some b → kb0 ≤ b ∧ b < W2.heap.size := fun b hb' => hv2.lt b hb'
            have hcg : Chg (fun b => u11.ownBlock = some b) W2 w7 := (Chg.alloc _ W2 _).trans (Chg.of_grown hg7 (fun k e _ => e)) (fun _ h _ => h)
            have hb7 : Below w.heap.size w w7 := hb2.trans ⟨hcg.os, hcg.tape, hcg.output, hcg.size, fun y hy => hcg.block y (by have := hb2.size; omega) (fun e => by have := (hvl y e).1; omega)⟩
            go_wp2
            go_roundw
            case rel => exact ⟨k + 1, by omega, by go_num, Nat.le_trans hsz0 (Nat.le_trans hc2.size hcg.size), hb7, hcg.obj hbs2 (fun e => by have := (hvl _ e).1; omega), hcg.map hm2 (fun e => by have := (hvl _ e).1; omega), hg2.of_chg hcg (fun e => by have := (hvl _ e).1; omega), by rw [HN.out]; simpa [HM.out, HFL.out, encW] using hown7⟩
            case measure => simp [RowKit.intOf]; omega
        · have hkb : keep.getD k false = false := by rw [List.getD_eq_getElem?_getD, List.getElem?_eq_none (Nat.le_of_not_lt hkl)]; rfl
          have j2 : ¬ (k : Int) < (keep.length : Int) := by omega
          have hnext : keptP L keep ps (k + 1) = keptP L keep ps k := by rw [hsucc, hkb, Bool.and_false]; exact List.append_nil _
          have HN := Lib.hid hnext; clear hnext hsucc hlead hkb
          go_wp2
          go_roundw
          case rel => exact ⟨k + 1, by omega, by go_num, Nat.le_trans hsz0 hc2.size, hb2, hbs2, hm2, hg2, by rw [HN.out]; exact hv2⟩
          case measure => simp [RowKit.intOf]; omega
    · obtain rfl : k = s.writes.length := by omega
      go_wp2
      exact hexit _ _ _ _ _ _ _ _ _ _ _ _ _ _ _ _ _ _ _ _ _ _ _ _ _ _ _ _ _ _ _ _ _ _ _ _ _ wr hb hbsr hmr hgr hvr

end Go.Proofs.YtlmdpcaikhdenaaGreat
/- Disk: Stop: the fourth loop: the last kept write that is no cut. -/
namespace Go.Proofs.YtlmdpcaikhdenaaGreat
open Go.RowKit Go.Maps Go.Shelf

theorem laid_len (b : List UInt8) (x : Wr) {n m : Nat} (hn : n ≤ x.data.length) (hb : b.length ≤ m) (hx : x.place + x.data.length ≤ m) : (laid b x n).length ≤ m := by
  unfold laid
  split
  · simp; omega
  · split
    · exact hb
    · simp; omega
theorem sizeW_le (last : Option Nat) (torn : Int) (i : Nat) (x : Wr) : sizeW last torn i x ≤ x.data.length := by
  unfold sizeW; split <;> omega
theorem dataW_len {s : DSt} {K : List Wr} {last : Option Nat} {torn : Int} {m : Nat} (h0 : ∀ f, (s.lasts f).length ≤ m) (hK : ∀ x ∈ K, x.place + x.data.length ≤ m) : ∀ i f, (dataW s K last torn i f).length ≤ m
  | 0, f => h0 f
  | i + 1, f => by
    have ih := dataW_len (last := last) (torn := torn) h0 hK i f
    unfold dataW
    split
    · rename_i x hx
      split
      · exact laid_len _ _ (sizeW_le _ _ _ _) ih (hK x (List.mem_of_getElem? hx))
      · exact ih
    · exact ih
/-- the writes that are kept, as they lie -/
def KeptV (w : World) (v : Value) (K : List Wv) : Prop := ∃ a cap, v = .slice a K.length cap ∧ ∀ (k : Nat) x, K[k]? = some x → ∃ g cur t, a = some ⟨g, 0, none⟩ ∧ w.heap[g]? = some (.cells cur t (0, 0)) ∧ ∀ c u, (encW x)[c]? = some u → cur.toList[k * 4 + c]? = some u
theorem KeptV.of_owns {w : World} {base : Nat} {v : Value} {K : List Wv} (h : w.ownsRow base 125 4 v K.length (K.map encW).flatten) : KeptV w v K := by
  rcases h.2 with ⟨hv, hz⟩ | ⟨gw, cap, cur, hv, _, hgw, _, _, _, ht⟩
  · subst hv
    obtain rfl := List.length_eq_zero_iff.1 hz
    exact ⟨none, 0, rfl, fun k x hx => by cases hx⟩
  · refine ⟨_, cap, hv, fun k x hx => ⟨gw, cur, _, rfl, hgw, fun c u hu => ?_⟩⟩
    have := cells_of_flat K cur.toList ht k x hx c u hu
    simpa using this
theorem KeptV.kept {O : Nat → Prop} {w w' : World} {v : Value} {K : List Wv} (h : KeptV w v K) (hc : Chg O w w') (hO : ∀ k, v.ownBlock = some k → ¬ O k) : KeptV w' v K := by
  obtain ⟨a, cap, rfl, h⟩ := h
  refine ⟨a, cap, rfl, fun k x hx => ?_⟩
  obtain ⟨g, cur, t, rfl, hg, hcu⟩ := h k x hx
  exact ⟨g, cur, t, rfl, hc.obj hg (hO g rfl), hcu⟩
def lastI : Option Nat → Int
  | some k => (k : Int)
  | none => -1

set_option maxRecDepth 1000000 in
set_option maxHeartbeats 4000000 in
theorem stop_loop4 {w0 : World} {p bs ml md : Nat} {v : Value} {kp : List (Wv × Wr)} (hv : KeptV w0 v (kp.map (·.1))) (hcut : ∀ q ∈ kp, q.1.2.2.1 = q.2.cut) (hn : kp.length ≤ maxList)
    {Q0 : Exit → Act → World → Prop} (c1 c2 c6 c7 c9 c10 c12 c13 c14 c15 c17 c18 c19 c20 c21 c22 c23 c24 c25 c26 c27 c28 c29 c30 c31 c32 c33 c34 c35 c36 c37 c38 c39 c40 c41 c42 c43 c44 c45 c46 c47 c48 c49 c50 c51 c52 c53 c54 c55 c56 c57 c58 c59 c60 c61 c62 c63 c64 c65 c66 c67 c68 c69 c70 c71 c72 c73 c74 c75 c76 c77 c78 c79 c80 c81 c82 c83 c84 c85 c86 c87 c88 c89 c90 c91 c92 c93 c94 c95 c96 c97 c98 c99 c100 c101 c102 c103 c104 c105 c106 c107 c108 c109 c110 c111 c112 c113 c114 c126 c127 c128 c129 c130 c131 c132 c133 c134 c135 c136 c137 c138 c139 c140 c141 c142 c143 c144 c145 c146 c147 c148 c149 c150 c151 c152 c153 c154 c155 c156 c157 c158 c159 c160 c161 c162 c163 c164 c165 c166 c167 c168 c169 c170 c171 c172 c173 c174 c175 c176 c177 c178 c179 c180 c181 c182 c183 c184 c185 c186 c187 c188 c189 c190 c191 c192 c193 c194 c195 c196 c197 c198 c199 c200 c201 c202 c203 c204 c205 c206 c207 c208 c209 c210 c211 c212 u115 u116 u117 u118 u119 u120 u121 u122 u123 u124 u125 : Value)
    (hexit : ∀ (u115 u116 u117 u118 u119 u120 u121 u122 u123 u124 u125 : Value), Q0 (.exit 6) ⟨(.pointer (some ⟨p, 0, none⟩) :: c1 :: c2 :: .pointer (some ⟨bs, 0, none⟩) :: .pointer none :: .map (some ml) :: c6 :: c7 :: .map (some md) :: c9 :: c10 :: v :: c12 :: c13 :: c14 :: c15 :: .int .i64 (lastI (lastW (kp.map (·.2)) kp.length)) :: c17 :: c18 :: c19 :: c20 :: c21 :: c22 :: c23 :: c24 :: c25 :: c26 :: c27 :: c28 :: c29 :: c30 :: c31 :: c32 :: c33 :: c34 :: c35 :: c36 :: c37 :: c38 :: c39 :: c40 :: c41 :: c42 :: c43 :: c44 :: c45 :: c46 :: c47 :: c48 :: c49 :: c50 :: c51 :: c52 :: c53 :: c54 :: c55 :: c56 :: c57 :: c58 :: c59 :: c60 :: c61 :: c62 :: c63 :: c64 :: c65 :: c66 :: c67 :: c68 :: c69 :: c70 :: c71 :: c72 :: c73 :: c74 :: c75 :: c76 :: c77 :: c78 :: c79 :: c80 :: c81 :: c82 :: c83 :: c84 :: c85 :: c86 :: c87 :: c88 :: c89 :: c90 :: c91 :: c92 :: c93 :: c94 :: c95 :: c96 :: c97 :: c98 :: c99 :: c100 :: c101 :: c102 :: c103 :: c104 :: c105 :: c106 :: c107 :: c108 :: c109 :: c110 :: c111 :: c112 :: c113 :: c114 :: u115 :: u116 :: u117 :: u118 :: u119 :: u120 :: u121 :: u122 :: u123 :: u124 :: u125 :: c126 :: c127 :: c128 :: c129 :: c130 :: c131 :: c132 :: c133 :: c134 :: c135 :: c136 :: c137 :: c138 :: c139 :: c140 :: c141 :: c142 :: c143 :: c144 :: c145 :: c146 :: c147 :: c148 :: c149 :: c150 :: c151 :: c152 :: c153 :: c154 :: c155 :: c156 :: c157 :: c158 :: c159 :: c160 :: c161 :: c162 :: c163 :: c164 :: c165 :: c166 :: c167 :: c168 :: c169 :: c170 :: c171 :: c172 :: c173 :: c174 :: c175 :: c176 :: c177 :: c178 :: c179 :: c180 :: c181 :: c182 :: c183 :: c184 :: c185 :: c186 :: c187 :: c188 :: c189 :: c190 :: c191 :: c192 :: c193 :: c194 :: c195 :: c196 :: c197 :: c198 :: c199 :: c200 :: c201 :: c202 :: c203 :: c204 :: c205 :: c206 :: c207 :: c208 :: c209 :: c210 :: c211 :: c212 :: ([] : List Value)).toArray, []⟩ w0) :
    Code.wp Tryz.prog (Code.loop (stopLoop 3)) Q0 ⟨(.pointer (some ⟨p, 0, none⟩) :: c1 :: c2 :: .pointer (some ⟨bs, 0, none⟩) :: .pointer none :: .map (some ml) :: c6 :: c7 :: .map (some md) :: c9 :: c10 :: v :: c12 :: c13 :: c14 :: c15 :: .int .i64 ((kp.length : Int) - 1) :: c17 :: c18 :: c19 :: c20 :: c21 :: c22 :: c23 :: c24 :: c25 :: c26 :: c27 :: c28 :: c29 :: c30 :: c31 :: c32 :: c33 :: c34 :: c35 :: c36 :: c37 :: c38 :: c39 :: c40 :: c41 :: c42 :: c43 :: c44 :: c45 :: c46 :: c47 :: c48 :: c49 :: c50 :: c51 :: c52 :: c53 :: c54 :: c55 :: c56 :: c57 :: c58 :: c59 :: c60 :: c61 :: c62 :: c63 :: c64 :: c65 :: c66 :: c67 :: c68 :: c69 :: c70 :: c71 :: c72 :: c73 :: c74 :: c75 :: c76 :: c77 :: c78 :: c79 :: c80 :: c81 :: c82 :: c83 :: c84 :: c85 :: c86 :: c87 :: c88 :: c89 :: c90 :: c91 :: c92 :: c93 :: c94 :: c95 :: c96 :: c97 :: c98 :: c99 :: c100 :: c101 :: c102 :: c103 :: c104 :: c105 :: c106 :: c107 :: c108 :: c109 :: c110 :: c111 :: c112 :: c113 :: c114 :: u115 :: u116 :: u117 :: u118 :: u119 :: u120 :: u121 :: u122 :: u123 :: u124 :: u125 :: c126 :: c127 :: c128 :: c129 :: c130 :: c131 :: c132 :: c133 :: c134 :: c135 :: c136 :: c137 :: c138 :: c139 :: c140 :: c141 :: c142 :: c143 :: c144 :: c145 :: c146 :: c147 :: c148 :: c149 :: c150 :: c151 :: c152 :: c153 :: c154 :: c155 :: c156 :: c157 :: c158 :: c159 :: c160 :: c161 :: c162 :: c163 :: c164 :: c165 :: c166 :: c167 :: c168 :: c169 :: c170 :: c171 :: c172 :: c173 :: c174 :: c175 :: c176 :: c177 :: c178 :: c179 :: c180 :: c181 :: c182 :: c183 :: c184 :: c185 :: c186 :: c187 :: c188 :: c189 :: c190 :: c191 :: c192 :: c193 :: c194 :: c195 :: c196 :: c197 :: c198 :: c199 :: c200 :: c201 :: c202 :: c203 :: c204 :: c205 :: c206 :: c207 :: c208 :: c209 :: c210 :: c211 :: c212 :: ([] : List Value)).toArray, []⟩ w0 := by
  have hmx : maxList = 4194304 := rfl
  obtain ⟨va, vc, rfl, hat⟩ := hv
  rw [List.length_map] at *
  conv => arg 2; arg 1; whnf
  go_loopw [16] (fun i wr => ∃ k : Nat, k ≤ kp.length ∧ i = .int .i64 ((k : Int) - 1) ∧ wr = w0 ∧ lastW (kp.map (·.2)) kp.length = lastW (kp.map (·.2)) k) (fun i _ => ((RowKit.intOf i) + 1).toNat)
  case atStart => exact ⟨kp.length, Nat.le_refl _, rfl, rfl, rfl⟩
  case round =>
    obtain ⟨k, hk, rfl, rfl, hlw⟩ := hrel
    cases k with
    | zero =>
      have e1 : ((0 : Nat) : Int) - 1 = -1 := rfl
      rw [e1]
      have hE := hexit
      rw [hlw] at hE
      go_wp2
      exact hE _ _ _ _ _ _ _ _ _ _ _
    | succ k =>
      have e1 : ((k + 1 : Nat) : Int) - 1 = (k : Int) := by omega
      rw [e1]
      obtain ⟨q, hq⟩ : ∃ q, kp[k]? = some q := ⟨kp[k]'(by omega), by simp⟩
      obtain ⟨g, cur, t, rfl, hg, hcu⟩ := hat k q.1 (by simp [hq])
      have hqc := hcut q (List.mem_of_getElem? hq)
      have hlk : lastW (kp.map (·.2)) (k + 1) = if q.2.cut then lastW (kp.map (·.2)) k else some k := by
        simp [lastW, hq]
      have c2 := cell_of_heap hg (i := k * 4 + 2) (v := .bool q.2.cut) (by have := hcu 2 (.bool q.1.2.2.1) rfl; rw [hqc] at this; simpa using this)
      have j0 : (0 : Int) ≤ (k : Int) := by omega
      have j1 : (k : Int) < (kp.length : Int) := by omega
      have HLW := Lib.hid hlw; clear hlw
      cases hqq : q.2.cut with
      | true =>
        rw [hqq] at c2 hlk
        have HLK := Lib.hid hlk; clear hlk hqc hcu
        go_wp2
        go_roundw
        case rel => exact ⟨k, by omega, by go_num, trivial, by rw [HLW.out, HLK.out]; rfl⟩
        case measure => simp [RowKit.intOf]
      | false =>
        rw [hqq] at c2 hlk
        have hE := hexit
        rw [HLW.out, hlk] at hE
        clear hlk hqc hcu
        go_wp2
        exact hE _ _ _ _ _ _ _ _ _ _ _

end Go.Proofs.YtlmdpcaikhdenaaGreat
/- Disk: plain: a stop as the program reckons it is a stop as the model says it. -/
namespace Go.Proofs.YtlmdpcaikhdenaaGreat
open Go.RowKit Go.Maps

/-- a region that ends as it should, and how it ends: walked apart, so a round's end is walked once -/
def onlyN (K : Act → World → Prop) : Exit → Act → World → Prop
  | .normal, a, w => K a w
  | _, _, _ => False
theorem wp_onlyN {P : Program} {c : Code} {Q : Exit → Act → World → Prop} {a : Act} {w : World} (K : Act → World → Prop) (h : c.wp P (onlyN K) a w) (hk : ∀ a w, K a w → Q .normal a w) : c.wp P Q a w :=
  wp_mono h fun e a w h => by cases e <;> first | exact hk _ _ h | exact h.elim

/-- is the write x, the k-th, kept? -/
def isK (l : NL) (keep : List Bool) (x : Wr) (k : Nat) : Bool := leadsTo l x.file && keep.getD k false
theorem keptW_succ {s : DSt} {l : NL} {keep : List Bool} {i : Nat} {x : Wr} (hx : s.writes[i]? = some x) : keptW s l keep (i + 1) = keptW s l keep i ++ (if isK l keep x i then [x] else []) := by
  unfold keptW isK
  have hz : s.writes.zipIdx[i]? = some (x, i) := by simp [hx]
  rw [List.take_add_one, hz, List.filter_append, List.map_append]
  congr 1
  simp only [Option.toList_some, List.filter_cons, List.filter_nil]
  split <;> simp_all
theorem keptW_pre (s : DSt) (l : NL) (keep : List Bool) {i j : Nat} (h : i ≤ j) : ∃ r, keptW s l keep j = keptW s l keep i ++ r := by
  induction j with
  | zero => obtain rfl : i = 0 := by omega
            exact ⟨[], by simp⟩
  | succ j ih =>
    by_cases hij : i = j + 1
    · subst hij; exact ⟨[], by simp⟩
    · obtain ⟨r, hr⟩ := ih (by omega)
      cases hx : s.writes[j]? with
      | none =>
        refine ⟨r, ?_⟩
        rw [← hr]; unfold keptW
        have : s.writes.length ≤ j := by simpa using hx
        rw [List.take_of_length_le (by simp; omega), List.take_of_length_le (by simp; omega)]
      | some x => rw [keptW_succ hx, hr]; exact ⟨_, List.append_assoc _ _ _⟩
theorem keptW_get {s : DSt} {l : NL} {keep : List Bool} {i j : Nat} {x : Wr} (hx : s.writes[i]? = some x) (hk : isK l keep x i = true) (hij : i < j) : (keptW s l keep j)[(keptW s l keep i).length]? = some x := by
  obtain ⟨r, hr⟩ := keptW_pre s l keep (i := i + 1) (j := j) (by omega)
  rw [hr, keptW_succ hx, hk]
  simp
theorem keptAt_eq {s : DSt} {l : NL} {keep : List Bool} {k : Nat} {x : Wr} (hx : s.writes[k]? = some x) : keptAt s l keep k = isK l keep x k := by
  unfold keptAt isK; rw [hx, Bool.and_comm]
theorem keptW_lt {s : DSt} {l : NL} {keep : List Bool} {i j : Nat} {x : Wr} (hx : s.writes[i]? = some x) (hk : isK l keep x i = true) (hij : i < j) : (keptW s l keep i).length < (keptW s l keep j).length := by
  have := keptW_get hx hk hij
  exact (List.getElem?_eq_some_iff.1 this).1

/-- the last in the one reckoning and in the other -/
def SameLast (s : DSt) (l : NL) (keep : List Bool) : Option Nat → Option Nat → Prop
  | none, none => True
  | some j, some k => (keptW s l keep k).length = j ∧ ∃ x, s.writes[k]? = some x ∧ isK l keep x k = true
  | _, _ => False
theorem lastW_congr {K K' : List Wr} : ∀ n : Nat, (∀ k, k < n → K[k]? = K'[k]?) → lastW K n = lastW K' n
  | 0, _ => rfl
  | n + 1, h => by
    unfold lastW
    rw [h n (by omega), lastW_congr n (fun k hk => h k (by omega))]
theorem same_last (s : DSt) (l : NL) (keep : List Bool) : ∀ i, i ≤ s.writes.length → SameLast s l keep (lastW (keptW s l keep i) (keptW s l keep i).length) (lastKept s l keep i)
  | 0, _ => by simp [keptW, lastW, lastKept, SameLast]
  | i + 1, hi => by
    have ih := same_last s l keep i (by omega)
    obtain ⟨x, hx⟩ : ∃ x, s.writes[i]? = some x := ⟨s.writes[i]'(by omega), by simp⟩
    unfold lastKept
    rw [keptAt_eq hx, keptW_succ hx, hx]
    simp only []
    cases hk : isK l keep x i
    · simp only [Bool.false_and, Bool.false_eq_true, if_false, List.append_nil]; exact ih
    · simp only [if_true, Bool.true_and, List.length_append, List.length_cons, List.length_nil]
      unfold lastW
      have hg : (keptW s l keep i ++ [x])[(keptW s l keep i).length]? = some x := by simp
      simp only [hg, Option.map_some, Option.getD_some]
      cases hc : x.cut
      · simp only [Bool.false_eq_true, if_false, Bool.not_false, if_true]
        exact ⟨rfl, x, hx, hk⟩
      · simp only [if_true, Bool.not_true, Bool.false_eq_true, if_false]
        rw [lastW_congr (K' := keptW s l keep i) _ (fun k hk => by rw [List.getElem?_append_left hk])]
        exact ih
theorem size_laid {s : DSt} {l : NL} {keep : List Bool} {a b : Option Nat} (h : SameLast s l keep a b) {i : Nat} {x : Wr} (hx : s.writes[i]? = some x) (hk : isK l keep x i = true) (torn : Int) : sizeW a torn (keptW s l keep i).length x = laidOf b torn i x := by
  have hiff : a = some (keptW s l keep i).length ↔ b = some i := by
    cases a <;> cases b <;> simp only [SameLast] at h
    · simp
    · rename_i j k
      obtain ⟨h1, y, hy, hyk⟩ := h
      simp only [Option.some.injEq]
      constructor
      · intro e
        rcases Nat.lt_trichotomy k i with hlt | heq | hgt
        · have := keptW_lt hy hyk hlt; omega
        · exact heq
        · have := keptW_lt hx hk hgt; omega
      · rintro rfl; omega
  unfold sizeW laidOf
  by_cases h1 : b = some i
  · have h2 := hiff.2 h1
    by_cases h3 : 0 ≤ torn
    · by_cases h4 : torn < x.data.length
      · rw [if_pos ⟨h2, h3⟩, if_pos ⟨h1, h3, h4⟩]; omega
      · rw [if_pos ⟨h2, h3⟩, if_neg (fun h => h4 h.2.2)]; omega
    · rw [if_neg (fun h => h3 h.2), if_neg (fun h => h3 h.2.1)]
  · rw [if_neg (fun h => h1 (hiff.1 h.1)), if_neg (fun h => h1 h.1)]
theorem data_is {s : DSt} {l : NL} {keep : List Bool} (torn : Int) {f : Nat} (hf : leadsTo l f = true) : ∀ i, i ≤ s.writes.length →
    dataW s (keptW s l keep s.writes.length) (lastW (keptW s l keep s.writes.length) (keptW s l keep s.writes.length).length) torn (keptW s l keep i).length f = stopFile s keep (lastKept s l keep s.writes.length) torn f i
  | 0, _ => by simp [keptW, dataW, stopFile]
  | i + 1, hi => by
    have ih := data_is (s := s) torn hf (keep := keep) i (by omega)
    obtain ⟨x, hx⟩ : ∃ x, s.writes[i]? = some x := ⟨s.writes[i]'(by omega), by simp⟩
    have hlen := congrArg List.length (keptW_succ (l := l) (keep := keep) hx)
    unfold stopFile
    simp only [hx]
    rw [hlen]
    cases hk : isK l keep x i
    · simp only [Bool.false_eq_true, if_false, List.append_nil]
      rw [ih]
      have hne : (keep.getD i false && x.file == f) = false := by
        unfold isK at hk
        cases hkk : keep.getD i false
        · rfl
        · rw [hkk, Bool.and_true] at hk
          cases hxf : x.file == f
          · rfl
          · rw [beq_iff_eq] at hxf; subst hxf; rw [hf] at hk; cases hk
      rw [hne]
      rfl
    · simp only [if_true, List.length_append, List.length_cons, List.length_nil]
      have hkk : keep.getD i false = true := by unfold isK at hk; simp at hk; simpa using hk.2
      rw [show (keptW s l keep i).length + (0 + 1) = (keptW s l keep i).length + 1 from rfl]
      conv => lhs; unfold dataW
      rw [keptW_get (j := s.writes.length) hx hk (by omega)]
      simp only []
      rw [size_laid (same_last s l keep s.writes.length (Nat.le_refl _)) hx hk, ih, hkk]
      by_cases hxf : x.file = f
      · simp [hxf]
      · have : (x.file == f) = false := by simpa using hxf
        simp [hxf]

/-- the files behind a stop, as the program reckons them -/
theorem stop_is (s : DSt) (names : Int) (keep : List Bool) (torn : Int) :
    s.stop names keep torn = DSt.ofFiles s.room ((stopNames s names).map fun p => (p.1, dataW s (keptW s (stopNames s names) keep s.writes.length) (lastW (keptW s (stopNames s names) keep s.writes.length) (keptW s (stopNames s names) keep s.writes.length).length) torn (keptW s (stopNames s names) keep s.writes.length).length p.2)) := by
  unfold DSt.stop
  simp only []
  congr 1
  refine List.map_congr_left fun p hp => ?_
  rw [data_is torn (by unfold leadsTo; rw [List.any_eq_true]; exact ⟨p, hp, by simp⟩) _ (Nat.le_refl _)]

end Go.Proofs.YtlmdpcaikhdenaaGreat
