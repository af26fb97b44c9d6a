/- Disk: Stop: its code in pieces; the first loop: steps of the names. -/
import Derived.Test.YtgckcnnnblggbaaDkU
import Derived.Test.YtgckcnnnblggbaaDkV
namespace Go.Proofs.Ytgckcnnnblggbaa
open Go.RowKit Go.Maps Go.Shelf

/-- the loops of a code, in order -/
def loopsOf : Code → List Code
  | .loop c => [c]
  | .seq a b => loopsOf a ++ loopsOf b
  | .block _ c => loopsOf c
  | .scope c => loopsOf c
  | .cond _ a b => loopsOf a ++ loopsOf b
  | _ => []
noncomputable def stopLoop (k : Nat) : Code := ((Try.f21.body.map loopsOf).getD []).getD k .skip

theorem step_does {w : World} {R : Nat → Prop} {b : Nat} {l : NL} {x : NStep} {v : Value} {F : Nat} (hv : StepIn w R v x) (hR : ¬ R b) (hm : w.ownsMap Try.prog 9 (plainElem Try.prog 3) b l.length (nameD l)) (hx : StepOk F x) (hF : F < 9223372036854775808) (hl : l.length < maxLen) (hn : NamesOk l F) : DoesStep v x b l w := by
  have hk : ∀ {k : List UInt8}, NameOk k → k.length ≤ maxLen := fun h => by have : _ ≤ 64 := h.2.1; unfold maxLen; omega
  cases x with
  | create k n => exact create_does hv hm (hk hx.2) (by have := hx.1; omega) hl
  | rename f t => exact rename_does hv hR hm (hk hx.1) (hk hx.2) hl (fun p hp => by have := (hn.each p hp).1; omega)
  | remove k => exact remove_does hv hm (hk hx)
theorem steps_len (l : NL) (xs : List NStep) : (xs.foldl doStep l).length ≤ l.length + xs.length := by
  induction xs generalizing l with
  | nil => simp
  | cons x r ih =>
    have := ih (doStep l x)
    have := doStep_le l x
    simp only [List.foldl_cons, List.length_cons]
    omega

set_option maxRecDepth 1000000 in
set_option maxHeartbeats 4000000 in
theorem stop_loop1 {w w0 : World} {p : Nat} {s : DSt} {R : Nat → Prop} {mf mn ms : Nat} {fb : List Nat} {vs vw : Value} {ss : List Value} {ws : List (List Value)} {e : TypeId} (h : DiskP w p s R mf mn ms fb vs vw ss ws e) {N : Nat} (hok : s.Ok N) (hN : N < maxList)
    {bs ml m sc : Nat} {sa : Option Addr} {so : Obj} (hm : m ≤ s.steps.length) (hsl : RowAt w sa ss) (hml : w.heap.size ≤ ml) (hbsl : bs ≠ ml) (hb0 : Below w.heap.size w w0) (hbs : w0.heap[bs]? = some so) (hm0 : w0.ownsMap Try.prog 9 (plainElem Try.prog 3) ml s.sure.length (nameD s.sure))
    {Q0 : Exit → Act → World → Prop} (c1 c2 c6 c8 c9 c10 c11 c12 c13 c14 c15 c16 c17 c18 c19 c20 c21 c22 c23 c24 c25 c26 c27 c28 c29 c30 c31 c32 c33 c34 c35 c36 c37 c38 c39 c40 c41 c42 c43 c44 c45 c56 c57 c58 c59 c60 c61 c62 c63 c64 c65 c66 c67 c68 c69 c70 c71 c72 c73 c74 c75 c76 c77 c78 c79 c80 c81 c82 c83 c84 c85 c86 c87 c88 c89 c90 c91 c92 c93 c94 c95 c96 c97 c98 c99 c100 c101 c102 c103 c104 c105 c106 c107 c108 c109 c110 c111 c112 c113 c114 c115 c116 c117 c118 c119 c120 c121 c122 c123 c124 c125 c126 c127 c128 c129 c130 c131 c132 c133 c134 c135 c136 c137 c138 c139 c140 c141 c142 c143 c144 c145 c146 c147 c148 c149 c150 c151 c152 c153 c154 c155 c156 c157 c158 c159 c160 c161 c162 c163 c164 c165 c166 c167 c168 c169 c170 c171 c172 c173 c174 c175 c176 c177 c178 c179 c180 c181 c182 c183 c184 c185 c186 c187 c188 c189 c190 c191 c192 c193 c194 c195 c196 c197 c198 c199 c200 c201 c202 c203 c204 c205 c206 c207 c208 c209 c210 c211 c212 u7 u49 u50 u51 u52 u53 u54 u55 : Value)
    (hexit : ∀ (u7 u48 u49 u50 u51 u52 u53 u54 u55 : Value) (w' : World), Below w.heap.size w w' → w'.heap[bs]? = some so → w'.ownsMap Try.prog 9 (plainElem Try.prog 3) ml ((s.steps.take m).foldl doStep s.sure).length (nameD ((s.steps.take m).foldl doStep s.sure)) →
      Q0 (.exit 0) ⟨(.pointer (some ⟨p, 0, none⟩) :: c1 :: c2 :: .pointer (some ⟨bs, 0, none⟩) :: .pointer none :: .map (some ml) :: c6 :: u7 :: c8 :: c9 :: c10 :: c11 :: c12 :: c13 :: c14 :: c15 :: c16 :: c17 :: c18 :: c19 :: c20 :: c21 :: c22 :: c23 :: c24 :: c25 :: c26 :: c27 :: c28 :: c29 :: c30 :: c31 :: c32 :: c33 :: c34 :: c35 :: c36 :: c37 :: c38 :: c39 :: c40 :: c41 :: c42 :: c43 :: c44 :: c45 :: .slice sa m sc :: .int .i64 (m : Int) :: u48 :: u49 :: u50 :: u51 :: u52 :: u53 :: u54 :: u55 :: c56 :: c57 :: c58 :: c59 :: c60 :: c61 :: c62 :: c63 :: c64 :: c65 :: c66 :: c67 :: c68 :: c69 :: c70 :: c71 :: c72 :: c73 :: c74 :: c75 :: c76 :: c77 :: c78 :: c79 :: c80 :: c81 :: c82 :: c83 :: c84 :: c85 :: c86 :: c87 :: c88 :: c89 :: c90 :: c91 :: c92 :: c93 :: c94 :: c95 :: c96 :: c97 :: c98 :: c99 :: c100 :: c101 :: c102 :: c103 :: c104 :: c105 :: c106 :: c107 :: c108 :: c109 :: c110 :: c111 :: c112 :: c113 :: c114 :: c115 :: c116 :: c117 :: c118 :: c119 :: c120 :: c121 :: c122 :: c123 :: c124 :: c125 :: c126 :: c127 :: c128 :: c129 :: c130 :: c131 :: c132 :: c133 :: c134 :: c135 :: c136 :: c137 :: c138 :: c139 :: c140 :: c141 :: c142 :: c143 :: c144 :: c145 :: c146 :: c147 :: c148 :: c149 :: c150 :: c151 :: c152 :: c153 :: c154 :: c155 :: c156 :: c157 :: c158 :: c159 :: c160 :: c161 :: c162 :: c163 :: c164 :: c165 :: c166 :: c167 :: c168 :: c169 :: c170 :: c171 :: c172 :: c173 :: c174 :: c175 :: c176 :: c177 :: c178 :: c179 :: c180 :: c181 :: c182 :: c183 :: c184 :: c185 :: c186 :: c187 :: c188 :: c189 :: c190 :: c191 :: c192 :: c193 :: c194 :: c195 :: c196 :: c197 :: c198 :: c199 :: c200 :: c201 :: c202 :: c203 :: c204 :: c205 :: c206 :: c207 :: c208 :: c209 :: c210 :: c211 :: c212 :: ([] : List Value)).toArray, []⟩ w') :
    Code.wp Try.prog (Code.loop (stopLoop 0)) Q0 ⟨(.pointer (some ⟨p, 0, none⟩) :: c1 :: c2 :: .pointer (some ⟨bs, 0, none⟩) :: .pointer none :: .map (some ml) :: c6 :: u7 :: c8 :: c9 :: c10 :: c11 :: c12 :: c13 :: c14 :: c15 :: c16 :: c17 :: c18 :: c19 :: c20 :: c21 :: c22 :: c23 :: c24 :: c25 :: c26 :: c27 :: c28 :: c29 :: c30 :: c31 :: c32 :: c33 :: c34 :: c35 :: c36 :: c37 :: c38 :: c39 :: c40 :: c41 :: c42 :: c43 :: c44 :: c45 :: .slice sa m sc :: .int .i64 (m : Int) :: .int .i64 0 :: u49 :: u50 :: u51 :: u52 :: u53 :: u54 :: u55 :: c56 :: c57 :: c58 :: c59 :: c60 :: c61 :: c62 :: c63 :: c64 :: c65 :: c66 :: c67 :: c68 :: c69 :: c70 :: c71 :: c72 :: c73 :: c74 :: c75 :: c76 :: c77 :: c78 :: c79 :: c80 :: c81 :: c82 :: c83 :: c84 :: c85 :: c86 :: c87 :: c88 :: c89 :: c90 :: c91 :: c92 :: c93 :: c94 :: c95 :: c96 :: c97 :: c98 :: c99 :: c100 :: c101 :: c102 :: c103 :: c104 :: c105 :: c106 :: c107 :: c108 :: c109 :: c110 :: c111 :: c112 :: c113 :: c114 :: c115 :: c116 :: c117 :: c118 :: c119 :: c120 :: c121 :: c122 :: c123 :: c124 :: c125 :: c126 :: c127 :: c128 :: c129 :: c130 :: c131 :: c132 :: c133 :: c134 :: c135 :: c136 :: c137 :: c138 :: c139 :: c140 :: c141 :: c142 :: c143 :: c144 :: c145 :: c146 :: c147 :: c148 :: c149 :: c150 :: c151 :: c152 :: c153 :: c154 :: c155 :: c156 :: c157 :: c158 :: c159 :: c160 :: c161 :: c162 :: c163 :: c164 :: c165 :: c166 :: c167 :: c168 :: c169 :: c170 :: c171 :: c172 :: c173 :: c174 :: c175 :: c176 :: c177 :: c178 :: c179 :: c180 :: c181 :: c182 :: c183 :: c184 :: c185 :: c186 :: c187 :: c188 :: c189 :: c190 :: c191 :: c192 :: c193 :: c194 :: c195 :: c196 :: c197 :: c198 :: c199 :: c200 :: c201 :: c202 :: c203 :: c204 :: c205 :: c206 :: c207 :: c208 :: c209 :: c210 :: c211 :: c212 :: ([] : List Value)).toArray, []⟩ w0 := by
  have hmx : maxList = 4194304 := rfl
  have hmax : maxLen = 9223372036854775807 := rfl
  have hms := hok.manySteps
  have hmu := hok.manySure
  have hmf := hok.manyFiles
  have hsslen : ss.length = s.steps.length := by have := h.stepsR.1; omega
  conv => arg 2; arg 1; whnf
  go_loopw [48] (fun i wr => ∃ k : Nat, k ≤ m ∧ i = .int .i64 k ∧ Below w.heap.size w wr ∧ wr.heap[bs]? = some so ∧ wr.ownsMap Try.prog 9 (plainElem Try.prog 3) ml ((s.steps.take k).foldl doStep s.sure).length (nameD ((s.steps.take k).foldl doStep s.sure))) (fun i _ => m - (RowKit.intOf i).toNat)
  case atStart => exact ⟨0, by omega, rfl, hb0, hbs, hm0⟩
  case round =>
    obtain ⟨k, hk, rfl, hb, hbsr, hmr⟩ := hrel
    by_cases hlt : k < m
    · have hD := h.below hb
      obtain ⟨gb, go, rfl, hcx⟩ := (hsl.below hb).at_ (k := k) (by omega)
      have hx1 : ss[k]? = some ss[k] := by simp
      have hx2 : s.steps[k]? = some s.steps[k] := by simp
      have hst := hD.step k _ _ hx1 hx2
      have hsok : StepOk s.files.length s.steps[k] := hok.steps _ (List.getElem_mem _)
      have hnk : NamesOk ((s.steps.take k).foldl doStep s.sure) s.files.length := NamesOk.steps ⟨hok.risingSure, hok.sure⟩ (fun x hx => hok.steps x (List.mem_of_mem_take hx))
      have hlk := steps_len s.sure (s.steps.take k)
      have htk : (s.steps.take k).length ≤ k := by simp; omega
      have hdo := step_does hst (b := ml) (fun hr => by have := h.shared _ hr; omega) hmr hsok (by omega) (by omega) hnk
      have hnext : doStep ((s.steps.take k).foldl doStep s.sure) s.steps[k] = (s.steps.take (k + 1)).foldl doStep s.sure := by
        rw [List.take_succ_eq_append_getElem (by omega), List.foldl_append]; rfl
      obtain ⟨M, caps, hvx, henter, hcall⟩ := hdo
      rw [hnext] at hcall
      rw [hvx] at hcx
      have HN := Lib.hid hnext; clear hnext hvx hst hnk hlk htk hx1 hx2
      have j0 : (0 : Int) ≤ (k : Int) := by omega
      have j1 : (k : Int) < (m : Int) := by omega
      go_wp2_with (refine hcall.mono ?_; rintro _ w1 ⟨rfl, hm1, hg1⟩)
      have hc1 : Chg (· = ml) wr w1 := Chg.of_grown hg1 (fun k e _ => by cases e; rfl)
      have hb1 : Below w.heap.size w w1 := hb.trans ⟨hc1.os, hc1.tape, hc1.output, hc1.size, fun y hy => hc1.block y (by have := hb.size; omega) (by omega)⟩
      go_roundw
      case rel => exact ⟨k + 1, by omega, by go_num, hb1, hc1.obj hbsr hbsl, hm1⟩
      case measure => simp [RowKit.intOf]; omega
    · obtain rfl : k = m := by omega
      go_wp2
      exact hexit _ _ _ _ _ _ _ _ _ _ hb hbsr hmr

end Go.Proofs.Ytgckcnnnblggbaa
