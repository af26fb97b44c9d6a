/- Texts of this claim, one behind the other: DkW, DkX, DkY. -/
import Derived.Test.YtlmdpcaikhdenaaGreatSl17
set_option linter.unusedSimpArgs false
set_option linter.unusedVariables false
/- Disk: Stop: its code in pieces; the first loop: steps of the names. -/
namespace Go.Proofs.YtlmdpcaikhdenaaGreat
open Go.RowKit Go.Maps Go.Shelf

/-- the loops of a code, in order -/
def loopsOf : Code → List Code
  | .loop c => [c]
  | .seq a b => loopsOf a ++ loopsOf b
  | .block _ c => loopsOf c
  | .scope c => loopsOf c
  | .cond _ a b => loopsOf a ++ loopsOf b
  | _ => []
noncomputable def stopLoop (k : Nat) : Code := ((Tryz.f23.body.map loopsOf).getD []).getD k .skip

theorem step_does {w : World} {R : Nat → Prop} {b : Nat} {l : NL} {x : NStep} {v : Value} {F : Nat} (hv : StepIn w R v x) (hR : ¬ R b) (hm : w.ownsMap Tryz.prog 9 (plainElem Tryz.prog 3) b l.length (nameD l)) (hx : StepOk F x) (hF : F < 9223372036854775808) (hl : l.length < maxLen) (hn : NamesOk l F) : DoesStep v x b l w := by
  have hk : ∀ {k : List UInt8}, NameOk k → k.length ≤ maxLen := fun h => by have : _ ≤ 64 := h.2.1; unfold maxLen; omega
  cases x with
  | create k n => exact create_does hv hm (hk hx.2) (by have := hx.1; omega) hl
  | rename f t => exact False.elim hv
  | remove k => exact remove_does hv hm (hk hx)
theorem steps_len (l : NL) (xs : List NStep) : (xs.foldl doStep l).length ≤ l.length + xs.length := by
  induction xs generalizing l with
  | nil => simp
  | cons x r ih =>
    have := ih (doStep l x)
    have := doStep_le l x
    simp only [List.foldl_cons, List.length_cons]
    omega

set_option maxRecDepth 1000000 in
set_option maxHeartbeats 4000000 in
theorem stop_loop1 {w w0 : World} {p : Nat} {s : DSt} {R : Nat → Prop} {mf mn ms : Nat} {fb : List Nat} {vs vw : Value} {ss : List Value} {ws : List (List Value)} {e : TypeId} (h : DiskP w p s R mf mn ms fb vs vw ss ws e) {N : Nat} (hok : s.Ok N) (hN : N < maxList)
    {bs ml m sc : Nat} {sa : Option Addr} {so : Obj} (hm : m ≤ s.steps.length) (hsl : RowAt w sa ss) (hml : w.heap.size ≤ ml) (hbsl : bs ≠ ml) (hb0 : Below w.heap.size w w0) (hbs : w0.heap[bs]? = some so) (hm0 : w0.ownsMap Tryz.prog 9 (plainElem Tryz.prog 3) ml s.sure.length (nameD s.sure))
    {Q0 : Exit → Act → World → Prop} (c1 c2 c6 c8 c9 c10 c11 c12 c13 c14 c15 c16 c17 c18 c19 c20 c21 c22 c23 c24 c25 c26 c27 c28 c29 c30 c31 c32 c33 c34 c35 c36 c37 c38 c39 c40 c41 c42 c43 c44 c45 c56 c57 c58 c59 c60 c61 c62 c63 c64 c65 c66 c67 c68 c69 c70 c71 c72 c73 c74 c75 c76 c77 c78 c79 c80 c81 c82 c83 c84 c85 c86 c87 c88 c89 c90 c91 c92 c93 c94 c95 c96 c97 c98 c99 c100 c101 c102 c103 c104 c105 c106 c107 c108 c109 c110 c111 c112 c113 c114 c115 c116 c117 c118 c119 c120 c121 c122 c123 c124 c125 c126 c127 c128 c129 c130 c131 c132 c133 c134 c135 c136 c137 c138 c139 c140 c141 c142 c143 c144 c145 c146 c147 c148 c149 c150 c151 c152 c153 c154 c155 c156 c157 c158 c159 c160 c161 c162 c163 c164 c165 c166 c167 c168 c169 c170 c171 c172 c173 c174 c175 c176 c177 c178 c179 c180 c181 c182 c183 c184 c185 c186 c187 c188 c189 c190 c191 c192 c193 c194 c195 c196 c197 c198 c199 c200 c201 c202 c203 c204 c205 c206 c207 c208 c209 c210 c211 c212 u7 u49 u50 u51 u52 u53 u54 u55 : Value)
    (hexit : ∀ (u7 u48 u49 u50 u51 u52 u53 u54 u55 : Value) (w' : World), Below w.heap.size w w' → w'.heap[bs]? = some so → w'.ownsMap Tryz.prog 9 (plainElem Tryz.prog 3) ml ((s.steps.take m).foldl doStep s.sure).length (nameD ((s.steps.take m).foldl doStep s.sure)) →
      Q0 (.exit 0) ⟨(.pointer (some ⟨p, 0, none⟩) :: c1 :: c2 :: .pointer (some ⟨bs, 0, none⟩) :: .pointer none :: .map (some ml) :: c6 :: u7 :: c8 :: c9 :: c10 :: c11 :: c12 :: c13 :: c14 :: c15 :: c16 :: c17 :: c18 :: c19 :: c20 :: c21 :: c22 :: c23 :: c24 :: c25 :: c26 :: c27 :: c28 :: c29 :: c30 :: c31 :: c32 :: c33 :: c34 :: c35 :: c36 :: c37 :: c38 :: c39 :: c40 :: c41 :: c42 :: c43 :: c44 :: c45 :: .slice sa m sc :: .int .i64 (m : Int) :: u48 :: u49 :: u50 :: u51 :: u52 :: u53 :: u54 :: u55 :: c56 :: c57 :: c58 :: c59 :: c60 :: c61 :: c62 :: c63 :: c64 :: c65 :: c66 :: c67 :: c68 :: c69 :: c70 :: c71 :: c72 :: c73 :: c74 :: c75 :: c76 :: c77 :: c78 :: c79 :: c80 :: c81 :: c82 :: c83 :: c84 :: c85 :: c86 :: c87 :: c88 :: c89 :: c90 :: c91 :: c92 :: c93 :: c94 :: c95 :: c96 :: c97 :: c98 :: c99 :: c100 :: c101 :: c102 :: c103 :: c104 :: c105 :: c106 :: c107 :: c108 :: c109 :: c110 :: c111 :: c112 :: c113 :: c114 :: c115 :: c116 :: c117 :: c118 :: c119 :: c120 :: c121 :: c122 :: c123 :: c124 :: c125 :: c126 :: c127 :: c128 :: c129 :: c130 :: c131 :: c132 :: c133 :: c134 :: c135 :: c136 :: c137 :: c138 :: c139 :: c140 :: c141 :: c142 :: c143 :: c144 :: c145 :: c146 :: c147 :: c148 :: c149 :: c150 :: c151 :: c152 :: c153 :: c154 :: c155 :: c156 :: c157 :: c158 :: c159 :: c160 :: c161 :: c162 :: c163 :: c164 :: c165 :: c166 :: c167 :: c168 :: c169 :: c170 :: c171 :: c172 :: c173 :: c174 :: c175 :: c176 :: c177 :: c178 :: c179 :: c180 :: c181 :: c182 :: c183 :: c184 :: c185 :: c186 :: c187 :: c188 :: c189 :: c190 :: c191 :: c192 :: c193 :: c194 :: c195 :: c196 :: c197 :: c198 :: c199 :: c200 :: c201 :: c202 :: c203 :: c204 :: c205 :: c206 :: c207 :: c208 :: c209 :: c210 :: c211 :: c212 :: ([] : List Value)).toArray, []⟩ w') :
    Code.wp Tryz.prog (Code.loop (stopLoop 0)) Q0 ⟨(.pointer (some ⟨p, 0, none⟩) :: c1 :: c2 :: .pointer (some ⟨bs, 0, none⟩) :: .pointer none :: .map (some ml) :: c6 :: u7 :: c8 :: c9 :: c10 :: c11 :: c12 :: c13 :: c14 :: c15 :: c16 :: c17 :: c18 :: c19 :: c20 :: c21 :: c22 :: c23 :: c24 :: c25 :: c26 :: c27 :: c28 :: c29 :: c30 :: c31 :: c32 :: c33 :: c34 :: c35 :: c36 :: c37 :: c38 :: c39 :: c40 :: c41 :: c42 :: c43 :: c44 :: c45 :: .slice sa m sc :: .int .i64 (m : Int) :: .int .i64 0 :: u49 :: u50 :: u51 :: u52 :: u53 :: u54 :: u55 :: c56 :: c57 :: c58 :: c59 :: c60 :: c61 :: c62 :: c63 :: c64 :: c65 :: c66 :: c67 :: c68 :: c69 :: c70 :: c71 :: c72 :: c73 :: c74 :: c75 :: c76 :: c77 :: c78 :: c79 :: c80 :: c81 :: c82 :: c83 :: c84 :: c85 :: c86 :: c87 :: c88 :: c89 :: c90 :: c91 :: c92 :: c93 :: c94 :: c95 :: c96 :: c97 :: c98 :: c99 :: c100 :: c101 :: c102 :: c103 :: c104 :: c105 :: c106 :: c107 :: c108 :: c109 :: c110 :: c111 :: c112 :: c113 :: c114 :: c115 :: c116 :: c117 :: c118 :: c119 :: c120 :: c121 :: c122 :: c123 :: c124 :: c125 :: c126 :: c127 :: c128 :: c129 :: c130 :: c131 :: c132 :: c133 :: c134 :: c135 :: c136 :: c137 :: c138 :: c139 :: c140 :: c141 :: c142 :: c143 :: c144 :: c145 :: c146 :: c147 :: c148 :: c149 :: c150 :: c151 :: c152 :: c153 :: c154 :: c155 :: c156 :: c157 :: c158 :: c159 :: c160 :: c161 :: c162 :: c163 :: c164 :: c165 :: c166 :: c167 :: c168 :: c169 :: c170 :: c171 :: c172 :: c173 :: c174 :: c175 :: c176 :: c177 :: c178 :: c179 :: c180 :: c181 :: c182 :: c183 :: c184 :: c185 :: c186 :: c187 :: c188 :: c189 :: c190 :: c191 :: c192 :: c193 :: c194 :: c195 :: c196 :: c197 :: c198 :: c199 :: c200 :: c201 :: c202 :: c203 :: c204 :: c205 :: c206 :: c207 :: c208 :: c209 :: c210 :: c211 :: c212 :: ([] : List Value)).toArray, []⟩ w0 := by
  have hmx : maxList = 4194304 := rfl
  have hmax : maxLen = 9223372036854775807 := rfl
  have hms := hok.manySteps
  have hmu := hok.manySure
  have hmf := hok.manyFiles
  have hsslen : ss.length = s.steps.length := by have := h.stepsR.1; omega
  conv => arg 2; arg 1; whnf
  go_loopw [48] (fun i wr => ∃ k : Nat, k ≤ m ∧ i = .int .i64 k ∧ Below w.heap.size w wr ∧ wr.heap[bs]? = some so ∧ wr.ownsMap Tryz.prog 9 (plainElem Tryz.prog 3) ml ((s.steps.take k).foldl doStep s.sure).length (nameD ((s.steps.take k).foldl doStep s.sure))) (fun i _ => m - (RowKit.intOf i).toNat)
  case atStart => exact ⟨0, by omega, rfl, hb0, hbs, hm0⟩
  case round =>
    obtain ⟨k, hk, rfl, hb, hbsr, hmr⟩ := hrel
    by_cases hlt : k < m
    · have hD := h.below hb
      obtain ⟨gb, go, rfl, hcx⟩ := (hsl.below hb).at_ (k := k) (by omega)
      have hx1 : ss[k]? = some ss[k] := by simp
      have hx2 : s.steps[k]? = some s.steps[k] := by simp
      have hst := hD.step k _ _ hx1 hx2
      have hsok : StepOk s.files.length s.steps[k] := hok.steps _ (List.getElem_mem _)
      have hnk : NamesOk ((s.steps.take k).foldl doStep s.sure) s.files.length := NamesOk.steps ⟨hok.risingSure, hok.sure⟩ (fun x hx => hok.steps x (List.mem_of_mem_take hx))
      have hlk := steps_len s.sure (s.steps.take k)
      have htk : (s.steps.take k).length ≤ k := by simp; omega
      have hdo := step_does hst (b := ml) (fun hr => by have := h.shared _ hr; omega) hmr hsok (by omega) (by omega) hnk
      have hnext : doStep ((s.steps.take k).foldl doStep s.sure) s.steps[k] = (s.steps.take (k + 1)).foldl doStep s.sure := by
        rw [List.take_succ_eq_append_getElem (by omega), List.foldl_append]; rfl
      obtain ⟨M, caps, hvx, henter, hcall⟩ := hdo
      rw [hnext] at hcall
      rw [hvx] at hcx
      have HN := Lib.hid hnext; clear hnext hvx hst hnk hlk htk hx1 hx2
      have j0 : (0 : Int) ≤ (k : Int) := by omega
      have j1 : (k : Int) < (m : Int) := by omega
      go_wp2_with (refine hcall.mono ?_; rintro _ w1 ⟨rfl, hm1, hg1⟩)
      have hc1 : Chg (· = ml) wr w1 := Chg.of_grown hg1 (fun k e _ => by cases e; rfl)
      have hb1 : Below w.heap.size w w1 := hb.trans ⟨hc1.os, hc1.tape, hc1.output, hc1.size, fun y hy => hc1.block y (by have := hb.size; omega) (by omega)⟩
      go_roundw
      case rel => exact ⟨k + 1, by omega, by go_num, hb1, hc1.obj hbsr hbsl, hm1⟩
      case measure => simp [RowKit.intOf]; omega
    · obtain rfl : k = m := by omega
      go_wp2
      exact hexit _ _ _ _ _ _ _ _ _ _ hb hbsr hmr

end Go.Proofs.YtlmdpcaikhdenaaGreat
/- Disk: Stop: the map of the bytes. -/
namespace Go.Proofs.YtlmdpcaikhdenaaGreat
open Go.RowKit Go.Maps Go.Shelf

/-- how a slice that begins at its block's begin reads as an element of a map -/
def slcElem : Value → Option (DataW Unit × List MemPlace)
  | .slice none n c => some (.agg [.lit (.int .i64 (n : Int)), .lit (.int .i64 (c : Int))], [])
  | .slice (some ⟨b, 0, none⟩) n c => some (.agg [.lit (.int .i64 (b : Int)), .lit (.int .i64 (n : Int)), .lit (.int .i64 (c : Int))], [])
  | _ => none
theorem slcElem_inj {v u : Value} {y : DataW Unit} {ps qs : List MemPlace} (h1 : slcElem v = some (y, ps)) (h2 : slcElem u = some (y, qs)) : v = u := by
  unfold slcElem at h1 h2
  split at h1
  · split at h2
    · simp at h1 h2
      obtain ⟨h1, _⟩ := h1; obtain ⟨h2, _⟩ := h2
      rw [← h1] at h2
      simp at h2
      obtain ⟨e1, e2⟩ := h2
      rw [Int.natCast_inj.1 e1, Int.natCast_inj.1 e2]
    · simp at h1 h2
      obtain ⟨h1, _⟩ := h1; obtain ⟨h2, _⟩ := h2
      rw [← h1] at h2
      simp at h2
    · cases h2
  · split at h2
    · simp at h1 h2
      obtain ⟨h1, _⟩ := h1; obtain ⟨h2, _⟩ := h2
      rw [← h1] at h2
      simp at h2
    · simp at h1 h2
      obtain ⟨h1, _⟩ := h1; obtain ⟨h2, _⟩ := h2
      rw [← h1] at h2
      simp at h2
      obtain ⟨e1, e2, e3⟩ := h2
      rw [Int.natCast_inj.1 e1, Int.natCast_inj.1 e2, Int.natCast_inj.1 e3]
    · cases h2
  · cases h1
theorem slcElem_inv {v : Value} {y : DataW Unit × List MemPlace} (h : slcElem v = some y) : ∃ a n c, v = .slice a n c := by
  unfold slcElem at h
  split at h
  · exact ⟨_, _, _, rfl⟩
  · exact ⟨_, _, _, rfl⟩
  · cases h
theorem BytesIn.elem {w : World} {R : Nat → Prop} {v : Value} {l : List UInt8} (h : BytesIn w R v l) : ∃ y, slcElem v = some (y, []) := by
  obtain ⟨a, c, rfl, _, _, _, _, h5, _⟩ := h
  cases a with
  | none => exact ⟨_, rfl⟩
  | some x =>
    rw [h5 x rfl]
    exact ⟨_, rfl⟩

/-- a map from files' numbers to slices -/
def DatMap (W : World) (md n : Nat) (g : Nat → Option Value) : Prop :=
  ∃ D, W.ownsMap Tryz.prog 3 slcElem md n D ∧ (∀ f : Nat, has D (.int .i64 (f : Int)) = (g f).isSome) ∧ ∀ (f : Nat) v, g f = some v → ∃ y ps, slcElem v = some (y, ps) ∧ ∀ zd, D.atKey (.int .i64 (f : Int)) zd = y
theorem DatMap.of_chg {O : Nat → Prop} {W W' : World} {md n : Nat} {g : Nat → Option Value} (h : DatMap W md n g) (hc : Chg O W W') (hO : ¬ O md) : DatMap W' md n g := by
  obtain ⟨D, h1, h2, h3⟩ := h
  exact ⟨D, hc.map h1 hO, h2, h3⟩
theorem DatMap.lt {W : World} {md n : Nat} {g : Nat → Option Value} (h : DatMap W md n g) : md < W.heap.size := by obtain ⟨D, h1, _⟩ := h; exact h1.lt
theorem DatMap.made (w : World) : DatMap (w.alloc (.map #[] 0)) w.heap.size 0 (fun _ => none) :=
  ⟨.map [], World.ownsMap_made w _ _ _, fun _ => rfl, fun f v h => by cases h⟩
theorem key_i64 {f : Nat} (hf : f < 9223372036854775808) : keyOf Tryz.prog 3 (.int .i64 (f : Int)) = some (.int .i64 (f : Int)) := keyOf_int_mk Tryz.underlying3 (wf_i64 (by omega) (by omega))
theorem zero_slc : ∀ w, (zeroValue 26).run Tryz.prog w = .ok (.slice none 0 0) w := Tryz.zeroValue26
theorem DatMap.store {W : World} {md n : Nat} {g : Nat → Option Value} (h : DatMap W md n g) (hn : n < maxLen) {f : Nat} (hf : f < 9223372036854775808) {v : Value} {y : DataW Unit} {ps : List MemPlace} (hy : slcElem v = some (y, ps)) :
    ∃ W', (Instr.mapUpdate 119 (.map (some md)) (.int .i64 (f : Int)) v).run Tryz.prog W = .ok () W' ∧ DatMap W' md (n + 1) (fun x => if x = f then some v else g x) ∧ Chg (· = md) W W' := by
  have h0 := h
  obtain ⟨D, h1, h2, h3⟩ := h
  obtain ⟨W', hr, hm, ht⟩ := h1.store (int_keyed Tryz.underlying3) Tryz.underlying119 hn (key_i64 hf) hy
  refine ⟨W', hr, ?_, Chg.turned ht rfl⟩
  have hk : WideAt.IsKeyLit (.int .i64 (f : Int)) := trivial
  have hne : ∀ {x : Nat}, x ≠ f → (Lit.int .i64 (x : Int)) ≠ .int .i64 (f : Int) := fun hx e => hx (by simp at e; omega)
  refine ⟨_, hm, fun x => ?_, fun x u hu => ?_⟩
  · by_cases hx : x = f
    · subst hx; rw [has_put_same h1.isMap hk]; simp
    · rw [has_put_other (hne hx), h2]; simp [hx]
  · by_cases hx : x = f
    · subst hx
      simp at hu
      subst hu
      exact ⟨y, ps, hy, fun zd => atKey_put_same h1.isMap hk _ _⟩
    · simp [hx] at hu
      obtain ⟨y', ps', k1, k2⟩ := h3 x u hu
      exact ⟨y', ps', k1, fun zd => by rw [atKey_put_other (hne hx)]; exact k2 zd⟩
theorem DatMap.look {W : World} {md n : Nat} {g : Nat → Option Value} (h : DatMap W md n g) {f : Nat} (hf : f < 9223372036854775808) {v : Value} (hv : g f = some v) :
    (Instr.lookup 119 (.map (some md)) (.int .i64 (f : Int)) false).run Tryz.prog W = .ok v W := by
  obtain ⟨D, h1, h2, h3⟩ := h
  obtain ⟨u, qs, hr, hu⟩ := h1.lookup (int_keyed Tryz.underlying3) Tryz.underlying119 (zero_slc W) (zd := .agg [.lit (.int .i64 ((0 : Nat) : Int)), .lit (.int .i64 ((0 : Nat) : Int))]) (zp := []) rfl (key_i64 hf)
  obtain ⟨y, ps, k1, k2⟩ := h3 f v hv
  rw [k2] at hu
  rw [hr, slcElem_inj hu k1]
theorem DatMap.look_ok {W : World} {md n : Nat} {g : Nat → Option Value} (h : DatMap W md n g) {f : Nat} (hf : f < 9223372036854775808) :
    ∃ a m c, (Instr.lookup 119 (.map (some md)) (.int .i64 (f : Int)) true).run Tryz.prog W = .ok (.tuple #[.slice a m c, .bool (g f).isSome]) W := by
  obtain ⟨D, h1, h2, h3⟩ := h
  obtain ⟨u, qs, hr, hu⟩ := h1.look_ok (int_keyed Tryz.underlying3) Tryz.underlying119 (zero_slc W) (zd := .agg [.lit (.int .i64 ((0 : Nat) : Int)), .lit (.int .i64 ((0 : Nat) : Int))]) (zp := []) rfl (key_i64 hf)
  obtain ⟨a, m, c, rfl⟩ := slcElem_inv hu
  exact ⟨a, m, c, by rw [hr, h2]⟩

end Go.Proofs.YtlmdpcaikhdenaaGreat
/- Disk: Stop: the second loop: the bytes that last, of the files that names lead to. -/
namespace Go.Proofs.YtlmdpcaikhdenaaGreat
open Go.RowKit Go.Maps Go.Shelf

theorem Chg.ranges {O : Nat → Prop} {w w' : World} (hc : Chg O w w') {P : Program} {k : TypeId} {R : Value → Option (DataW Unit × List MemPlace)} {b r n : Nat} {D : DataW Unit} {left : Lit → Bool} {cnt : Nat} (h : w.ranges P k R b r n D left cnt) (hb : ¬ O b) (hr : ¬ O r) : w'.ranges P k R b r n D left cnt := by
  obtain ⟨es, clock, since, seen, c0, h1, F, hs, hD, h2, rest⟩ := h
  exact ⟨es, clock, since, seen, c0, hc.obj h1 hb, F, hs, hD, hc.obj h2 hr, rest⟩
theorem ranges_owns {w : World} {P : Program} {k : TypeId} {R : Value → Option (DataW Unit × List MemPlace)} {b r n : Nat} {D : DataW Unit} {left : Lit → Bool} {cnt : Nat} (h : w.ranges P k R b r n D left cnt) : w.ownsMap P k R b n D := by
  obtain ⟨es, clock, since, seen, c0, h1, F, hs, hD, h2, rest⟩ := h
  exact ⟨es, clock, h1, F, hs, hD⟩
theorem DatMap.mono {W : World} {md n m : Nat} {g : Nat → Option Value} (h : DatMap W md n g) (hn : n ≤ m) : DatMap W md m g := by
  obtain ⟨D, h1, h2, h3⟩ := h
  exact ⟨D, h1.mono hn, h2, h3⟩
/-- the slice in which a file's lasting bytes lie -/
def SureV (w : World) (R : Nat → Prop) (fb : List Nat) (s : DSt) (f : Nat) (v : Value) : Prop := ∃ b vd e, fb[f]? = some b ∧ w.heap[b]? = some (.cells #[vd, v] e (0, 0)) ∧ BytesIn w R v (s.lasts f)
/-- a name that was met leads to the file -/
def metBy (L : NL) (left : Lit → Bool) (f : Nat) : Bool := L.any fun q => !left (.string q.1) && q.2 == f

set_option maxRecDepth 1000000 in
set_option maxHeartbeats 4000000 in
theorem stop_loop2 {w w0 : World} {p : Nat} {s : DSt} {R : Nat → Prop} {mf mn ms : Nat} {fb : List Nat} {vs vw : Value} {ss : List Value} {ws : List (List Value)} {e : TypeId} (h : DiskP w p s R mf mn ms fb vs vw ss ws e) {N : Nat} (hok : s.Ok N) (hN : N < maxList)
    {bs ml md it : Nat} {so : Obj} {L : NL} (hL : NamesOk L s.files.length) (hLn : L.length ≤ 8388608) (hml : w.heap.size ≤ ml) (hmd : w.heap.size ≤ md) (hit : w.heap.size ≤ it) (hd1 : md ≠ ml) (hd2 : md ≠ it) (hd3 : md ≠ bs) (hd4 : it ≠ bs) (hd5 : it ≠ ml) (hb0 : Below w.heap.size w w0) (hbs : w0.heap[bs]? = some so)
    (hm0 : w0.ranges Tryz.prog 9 (plainElem Tryz.prog 3) ml it L.length (nameD L) (has (nameD L)) (Maps.size (nameD L))) (hg0 : DatMap w0 md 0 (fun _ => none))
    {Q0 : Exit → Act → World → Prop} (c1 c2 c6 c7 c9 c11 c12 c13 c14 c15 c16 c17 c18 c19 c20 c21 c22 c23 c24 c25 c26 c27 c28 c29 c30 c31 c32 c33 c34 c35 c36 c37 c38 c39 c40 c41 c42 c43 c44 c45 c46 c47 c48 c49 c50 c51 c52 c53 c54 c55 c56 c57 c74 c75 c76 c77 c78 c79 c80 c81 c82 c83 c84 c85 c86 c87 c88 c89 c90 c91 c92 c93 c94 c95 c96 c97 c98 c99 c100 c101 c102 c103 c104 c105 c106 c107 c108 c109 c110 c111 c112 c113 c114 c115 c116 c117 c118 c119 c120 c121 c122 c123 c124 c125 c126 c127 c128 c129 c130 c131 c132 c133 c134 c135 c136 c137 c138 c139 c140 c141 c142 c143 c144 c145 c146 c147 c148 c149 c150 c151 c152 c153 c154 c155 c156 c157 c158 c159 c160 c161 c162 c163 c164 c165 c166 c167 c168 c169 c170 c171 c172 c173 c174 c175 c176 c177 c178 c179 c180 c181 c182 c183 c184 c185 c186 c187 c188 c189 c190 c191 c192 c193 c194 c195 c196 c197 c198 c199 c200 c201 c202 c203 c204 c205 c206 c207 c208 c209 c210 c211 c212 u10 u59 u60 u61 u62 u63 u64 u65 u66 u67 u68 u69 u70 u71 u72 u73 : Value)
    (hexit : ∀ (u10 u59 u60 u61 u62 u63 u64 u65 u66 u67 u68 u69 u70 u71 u72 u73 : Value) (w' : World) (g : Nat → Option Value), Below w.heap.size w w' → w'.heap[bs]? = some so → w'.ownsMap Tryz.prog 9 (plainElem Tryz.prog 3) ml L.length (nameD L) → DatMap w' md (Maps.size (nameD L)) g → (∀ f, (g f).isSome = leadsTo L f) → (∀ f v, g f = some v → SureV w R fb s f v) →
      Q0 (.exit 2) ⟨(.pointer (some ⟨p, 0, none⟩) :: c1 :: c2 :: .pointer (some ⟨bs, 0, none⟩) :: .pointer none :: .map (some ml) :: c6 :: c7 :: .map (some md) :: c9 :: u10 :: c11 :: c12 :: c13 :: c14 :: c15 :: c16 :: c17 :: c18 :: c19 :: c20 :: c21 :: c22 :: c23 :: c24 :: c25 :: c26 :: c27 :: c28 :: c29 :: c30 :: c31 :: c32 :: c33 :: c34 :: c35 :: c36 :: c37 :: c38 :: c39 :: c40 :: c41 :: c42 :: c43 :: c44 :: c45 :: c46 :: c47 :: c48 :: c49 :: c50 :: c51 :: c52 :: c53 :: c54 :: c55 :: c56 :: c57 :: .pointer (some ⟨it, 0, none⟩) :: u59 :: u60 :: u61 :: u62 :: u63 :: u64 :: u65 :: u66 :: u67 :: u68 :: u69 :: u70 :: u71 :: u72 :: u73 :: c74 :: c75 :: c76 :: c77 :: c78 :: c79 :: c80 :: c81 :: c82 :: c83 :: c84 :: c85 :: c86 :: c87 :: c88 :: c89 :: c90 :: c91 :: c92 :: c93 :: c94 :: c95 :: c96 :: c97 :: c98 :: c99 :: c100 :: c101 :: c102 :: c103 :: c104 :: c105 :: c106 :: c107 :: c108 :: c109 :: c110 :: c111 :: c112 :: c113 :: c114 :: c115 :: c116 :: c117 :: c118 :: c119 :: c120 :: c121 :: c122 :: c123 :: c124 :: c125 :: c126 :: c127 :: c128 :: c129 :: c130 :: c131 :: c132 :: c133 :: c134 :: c135 :: c136 :: c137 :: c138 :: c139 :: c140 :: c141 :: c142 :: c143 :: c144 :: c145 :: c146 :: c147 :: c148 :: c149 :: c150 :: c151 :: c152 :: c153 :: c154 :: c155 :: c156 :: c157 :: c158 :: c159 :: c160 :: c161 :: c162 :: c163 :: c164 :: c165 :: c166 :: c167 :: c168 :: c169 :: c170 :: c171 :: c172 :: c173 :: c174 :: c175 :: c176 :: c177 :: c178 :: c179 :: c180 :: c181 :: c182 :: c183 :: c184 :: c185 :: c186 :: c187 :: c188 :: c189 :: c190 :: c191 :: c192 :: c193 :: c194 :: c195 :: c196 :: c197 :: c198 :: c199 :: c200 :: c201 :: c202 :: c203 :: c204 :: c205 :: c206 :: c207 :: c208 :: c209 :: c210 :: c211 :: c212 :: ([] : List Value)).toArray, []⟩ w') :
    Code.wp Tryz.prog (Code.loop (stopLoop 1)) Q0 ⟨(.pointer (some ⟨p, 0, none⟩) :: c1 :: c2 :: .pointer (some ⟨bs, 0, none⟩) :: .pointer none :: .map (some ml) :: c6 :: c7 :: .map (some md) :: c9 :: u10 :: c11 :: c12 :: c13 :: c14 :: c15 :: c16 :: c17 :: c18 :: c19 :: c20 :: c21 :: c22 :: c23 :: c24 :: c25 :: c26 :: c27 :: c28 :: c29 :: c30 :: c31 :: c32 :: c33 :: c34 :: c35 :: c36 :: c37 :: c38 :: c39 :: c40 :: c41 :: c42 :: c43 :: c44 :: c45 :: c46 :: c47 :: c48 :: c49 :: c50 :: c51 :: c52 :: c53 :: c54 :: c55 :: c56 :: c57 :: .pointer (some ⟨it, 0, none⟩) :: u59 :: u60 :: u61 :: u62 :: u63 :: u64 :: u65 :: u66 :: u67 :: u68 :: u69 :: u70 :: u71 :: u72 :: u73 :: c74 :: c75 :: c76 :: c77 :: c78 :: c79 :: c80 :: c81 :: c82 :: c83 :: c84 :: c85 :: c86 :: c87 :: c88 :: c89 :: c90 :: c91 :: c92 :: c93 :: c94 :: c95 :: c96 :: c97 :: c98 :: c99 :: c100 :: c101 :: c102 :: c103 :: c104 :: c105 :: c106 :: c107 :: c108 :: c109 :: c110 :: c111 :: c112 :: c113 :: c114 :: c115 :: c116 :: c117 :: c118 :: c119 :: c120 :: c121 :: c122 :: c123 :: c124 :: c125 :: c126 :: c127 :: c128 :: c129 :: c130 :: c131 :: c132 :: c133 :: c134 :: c135 :: c136 :: c137 :: c138 :: c139 :: c140 :: c141 :: c142 :: c143 :: c144 :: c145 :: c146 :: c147 :: c148 :: c149 :: c150 :: c151 :: c152 :: c153 :: c154 :: c155 :: c156 :: c157 :: c158 :: c159 :: c160 :: c161 :: c162 :: c163 :: c164 :: c165 :: c166 :: c167 :: c168 :: c169 :: c170 :: c171 :: c172 :: c173 :: c174 :: c175 :: c176 :: c177 :: c178 :: c179 :: c180 :: c181 :: c182 :: c183 :: c184 :: c185 :: c186 :: c187 :: c188 :: c189 :: c190 :: c191 :: c192 :: c193 :: c194 :: c195 :: c196 :: c197 :: c198 :: c199 :: c200 :: c201 :: c202 :: c203 :: c204 :: c205 :: c206 :: c207 :: c208 :: c209 :: c210 :: c211 :: c212 :: ([] : List Value)).toArray, []⟩ w0 := by
  have hmx : maxList = 4194304 := rfl
  have hmax : maxLen = 9223372036854775807 := rfl
  have hmf := hok.manyFiles
  conv => arg 2; arg 1; whnf
  go_loopw [] (fun wr => ∃ left cnt k g, wr.ranges Tryz.prog 9 (plainElem Tryz.prog 3) ml it L.length (nameD L) left cnt ∧ k + cnt ≤ Maps.size (nameD L) ∧ Below w.heap.size w wr ∧ wr.heap[bs]? = some so ∧ DatMap wr md k g ∧ (∀ f, (g f).isSome = metBy L left f) ∧ (∀ f v, g f = some v → SureV w R fb s f v)) (fun wr => wr.rangeLeft ml it)
  case atStart =>
    refine ⟨_, _, 0, _, hm0, by omega, hb0, hbs, hg0, fun f => ?_, fun f v hv => by cases hv⟩
    show none.isSome = metBy L (has (nameD L)) f
    symm
    show metBy L (has (nameD L)) f = false
    unfold metBy
    rw [List.any_eq_false]
    intro q hq
    have : has (nameD L) (.string q.1) = true := by rw [nameD_has, rising_find hL.rising hq]; rfl
    simp [this]
  case round =>
    obtain ⟨left, cnt, k, g, hrg, hkc, hb, hbsr, hg, hgm, hgv⟩ := hrel
    go_wp2_with (at_next; refine wpList_next_ranges _ rfl _ rfl 9 (string_keyed Tryz.underlying9) (plainElem Tryz.prog 3) (fun x : List UInt8 => .string ⟨x.toArray⟩) (Value.int .i64) (fun key kl hkey => by obtain ⟨x, rfl, _⟩ := str_inv hkey; exact ⟨x, rfl⟩) (fun v y hv => by obtain ⟨c, rfl, _⟩ := plainElem_int_inv Tryz.underlying3 hv; exact ⟨c, rfl⟩) ml it L.length (nameD L) left cnt rfl hrg ?_ ?_)
    · intro hc0 hl0
      go_wp2
      have hall : ∀ f, metBy L left f = leadsTo L f := fun f => by unfold metBy leadsTo; simp [hl0]
      exact hexit _ _ _ _ _ _ _ _ _ _ _ _ _ _ _ _ wr g hb hbsr (ranges_owns hrg) (hg.mono (by omega)) (fun f => by rw [hgm, hall]) hgv
    · intro x c kl y1 y2 w1 cnt1 hkey hlk hv hat hrg1 hlt hg1 hs1 hen
      obtain ⟨x', ex, rfl⟩ := str_inv hkey
      obtain rfl : x = x' := by simpa using ex
      obtain ⟨c', ec, hy, hwc⟩ := plainElem_int_inv Tryz.underlying3 hv
      obtain ⟨rfl, rfl⟩ := Prod.mk.injEq _ _ _ _ ▸ hy
      obtain rfl : c = c' := by simpa using ec
      obtain ⟨m, hf, rfl⟩ := find_of_at hat
      have hmF := (hL.each _ (nlFind_mem hf)).1
      have hc1 : Chg (· = it) wr w1 := Chg.of_grown hg1 (fun k e _ => by cases e; rfl)
      have hb1 : Below w.heap.size w w1 := hb.grown hg1 hb.size (by intro k e; cases e; exact hit)
      have hD1 := h.below hb1
      obtain ⟨fbk, e', vd, vs', hfb, hfh, _, hbsu, hlf⟩ := hD1.file_at (n := m) hmF (by omega)
      have hlf0 : (Instr.lookup 107 (.map (some mf)) (.int .i64 (m : Int)) false).run Tryz.prog w1 = .ok (.pointer (some ⟨fbk, 0, none⟩)) w1 := hlf 0
      obtain ⟨sa, sc, rfl, _⟩ := hbsu.row
      have d1 := cell_of_heap hD1.cells (i := 1) (v := .map (some mf)) (by rfl)
      have d2 := cell_of_heap hfh (i := 1) (v := .slice sa (s.lasts m).length sc) (by rfl)
      obtain ⟨y, hy⟩ := hbsu.elem
      have hg1' := hg.of_chg hc1 hd2
      have hksz : Maps.size (nameD L) ≤ 8388608 := by rw [nameD_size]; exact hLn
      obtain ⟨w2, hst, hg2, hc2⟩ := hg1'.store (by omega) (f := m) (by omega) hy
      have hfk : fbk < w.heap.size := by
        have := h.lt (mem_own_fb (p := p) (mf := mf) (mn := mn) (vs := vs) (vw := vw) (List.mem_of_getElem? hfb)); exact this
      have hb2 : Below w.heap.size w w2 := hb1.trans ⟨hc2.os, hc2.tape, hc2.output, hc2.size, fun k hk => hc2.block k (by have := hb1.size; omega) (by omega)⟩
      have hsv : ∀ f v, (if f = m then some (Value.slice sa (s.lasts m).length sc) else g f) = some v → SureV w R fb s f v := by
        intro f v hv
        by_cases hfm : f = m
        · subst hfm
          simp at hv
          subst hv
          have hold := (hb1.block fbk hfk).symm.trans hfh
          have hbk : BytesIn w R (.slice sa (s.lasts f).length sc) (s.lasts f) := by
            obtain ⟨b0, e0, vd0, vs0, hfb0, hfh0, _, hb0', _⟩ := h.file_at (n := f) hmF (by omega)
            rw [hfb] at hfb0
            cases hfb0
            rw [hold] at hfh0
            simp at hfh0
            obtain ⟨⟨rfl, rfl⟩, _⟩ := hfh0
            exact hb0'
          exact ⟨fbk, vd, e', hfb, hold, hbk⟩
        · simp [hfm] at hv
          exact hgv f v hv
      have hmet : ∀ f, (if f = m then some (Value.slice sa (s.lasts m).length sc) else g f).isSome = metBy L (fun z => left z && !z.sameKey (.string x)) f := by
        intro f
        have hmem := nlFind_mem hf
        by_cases hfm : f = m
        · subst hfm
          simp only [if_true, Option.isSome_some]
          symm
          unfold metBy
          rw [List.any_eq_true]
          exact ⟨_, hmem, by simp [Lit.sameKey]⟩
        · simp only [hfm, if_false, hgm]
          unfold metBy
          rw [Bool.eq_iff_iff, List.any_eq_true, List.any_eq_true]
          constructor
          · rintro ⟨q, hq, hq2⟩
            refine ⟨q, hq, ?_⟩
            simp at hq2 ⊢
            exact ⟨.inl hq2.1, hq2.2⟩
          · rintro ⟨q, hq, hq2⟩
            refine ⟨q, hq, ?_⟩
            simp at hq2 ⊢
            refine ⟨?_, hq2.2⟩
            rcases hq2.1 with hl | hsk
            · exact hl
            · have hqx : q.1 = x := by simpa [Lit.sameKey] using hsk
              have : nlFind L q.1 = some q.2 := rising_find hL.rising hq
              rw [hqx, hf] at this
              simp at this
              omega
      have HSV := Lib.hid hsv; clear hsv
      have HMET := Lib.hid hmet; clear hmet
      have hbs2 := hc2.obj (hc1.obj hbsr (fun e => hd4 e.symm)) (fun e => hd3 e.symm)
      have hrg2 := hc2.ranges hrg1 (fun e => hd1 e.symm) (fun e => hd2 e.symm)
      have hleq := hrg2.left_eq
      have hleq0 := hrg.left_eq
      generalize (s.lasts m).length = dl at *
      clear hD1 hfh hbsu hgv hgm hg hg1'
      go_wp2
      go_roundw
      case rel => exact ⟨_, cnt1, k + 1, _, hrg2, by omega, hb2, hbs2, hg2, HMET.out, HSV.out⟩
      case measure => rw [hleq, hleq0]; omega

end Go.Proofs.YtlmdpcaikhdenaaGreat
