/- Disk: Stop: the second loop: the bytes that last, of the files that names lead to. -/
import Derived.Test.YtgckcnnnblggbaaDkX
namespace Go.Proofs.Ytgckcnnnblggbaa
open Go.RowKit Go.Maps Go.Shelf

theorem Chg.ranges {O : Nat → Prop} {w w' : World} (hc : Chg O w w') {P : Program} {k : TypeId} {R : Value → Option (DataW Unit × List MemPlace)} {b r n : Nat} {D : DataW Unit} {left : Lit → Bool} {cnt : Nat} (h : w.ranges P k R b r n D left cnt) (hb : ¬ O b) (hr : ¬ O r) : w'.ranges P k R b r n D left cnt := by
  obtain ⟨es, clock, since, seen, c0, h1, F, hs, hD, h2, rest⟩ := h
  exact ⟨es, clock, since, seen, c0, hc.obj h1 hb, F, hs, hD, hc.obj h2 hr, rest⟩
theorem ranges_owns {w : World} {P : Program} {k : TypeId} {R : Value → Option (DataW Unit × List MemPlace)} {b r n : Nat} {D : DataW Unit} {left : Lit → Bool} {cnt : Nat} (h : w.ranges P k R b r n D left cnt) : w.ownsMap P k R b n D := by
  obtain ⟨es, clock, since, seen, c0, h1, F, hs, hD, h2, rest⟩ := h
  exact ⟨es, clock, h1, F, hs, hD⟩
theorem DatMap.mono {W : World} {md n m : Nat} {g : Nat → Option Value} (h : DatMap W md n g) (hn : n ≤ m) : DatMap W md m g := by
  obtain ⟨D, h1, h2, h3⟩ := h
  exact ⟨D, h1.mono hn, h2, h3⟩
/-- the slice in which a file's lasting bytes lie -/
def SureV (w : World) (R : Nat → Prop) (fb : List Nat) (s : DSt) (f : Nat) (v : Value) : Prop := ∃ b vd e, fb[f]? = some b ∧ w.heap[b]? = some (.cells #[vd, v] e (0, 0)) ∧ BytesIn w R v (s.lasts f)
/-- a name that was met leads to the file -/
def metBy (L : NL) (left : Lit → Bool) (f : Nat) : Bool := L.any fun q => !left (.string q.1) && q.2 == f

set_option maxRecDepth 1000000 in
set_option maxHeartbeats 4000000 in
theorem stop_loop2 {w w0 : World} {p : Nat} {s : DSt} {R : Nat → Prop} {mf mn ms : Nat} {fb : List Nat} {vs vw : Value} {ss : List Value} {ws : List (List Value)} {e : TypeId} (h : DiskP w p s R mf mn ms fb vs vw ss ws e) {N : Nat} (hok : s.Ok N) (hN : N < maxList)
    {bs ml md it : Nat} {so : Obj} {L : NL} (hL : NamesOk L s.files.length) (hLn : L.length ≤ 8388608) (hml : w.heap.size ≤ ml) (hmd : w.heap.size ≤ md) (hit : w.heap.size ≤ it) (hd1 : md ≠ ml) (hd2 : md ≠ it) (hd3 : md ≠ bs) (hd4 : it ≠ bs) (hd5 : it ≠ ml) (hb0 : Below w.heap.size w w0) (hbs : w0.heap[bs]? = some so)
    (hm0 : w0.ranges Try.prog 9 (plainElem Try.prog 3) ml it L.length (nameD L) (has (nameD L)) (Maps.size (nameD L))) (hg0 : DatMap w0 md 0 (fun _ => none))
    {Q0 : Exit → Act → World → Prop} (c1 c2 c6 c7 c9 c11 c12 c13 c14 c15 c16 c17 c18 c19 c20 c21 c22 c23 c24 c25 c26 c27 c28 c29 c30 c31 c32 c33 c34 c35 c36 c37 c38 c39 c40 c41 c42 c43 c44 c45 c46 c47 c48 c49 c50 c51 c52 c53 c54 c55 c56 c57 c74 c75 c76 c77 c78 c79 c80 c81 c82 c83 c84 c85 c86 c87 c88 c89 c90 c91 c92 c93 c94 c95 c96 c97 c98 c99 c100 c101 c102 c103 c104 c105 c106 c107 c108 c109 c110 c111 c112 c113 c114 c115 c116 c117 c118 c119 c120 c121 c122 c123 c124 c125 c126 c127 c128 c129 c130 c131 c132 c133 c134 c135 c136 c137 c138 c139 c140 c141 c142 c143 c144 c145 c146 c147 c148 c149 c150 c151 c152 c153 c154 c155 c156 c157 c158 c159 c160 c161 c162 c163 c164 c165 c166 c167 c168 c169 c170 c171 c172 c173 c174 c175 c176 c177 c178 c179 c180 c181 c182 c183 c184 c185 c186 c187 c188 c189 c190 c191 c192 c193 c194 c195 c196 c197 c198 c199 c200 c201 c202 c203 c204 c205 c206 c207 c208 c209 c210 c211 c212 u10 u59 u60 u61 u62 u63 u64 u65 u66 u67 u68 u69 u70 u71 u72 u73 : Value)
    (hexit : ∀ (u10 u59 u60 u61 u62 u63 u64 u65 u66 u67 u68 u69 u70 u71 u72 u73 : Value) (w' : World) (g : Nat → Option Value), Below w.heap.size w w' → w'.heap[bs]? = some so → w'.ownsMap Try.prog 9 (plainElem Try.prog 3) ml L.length (nameD L) → DatMap w' md (Maps.size (nameD L)) g → (∀ f, (g f).isSome = leadsTo L f) → (∀ f v, g f = some v → SureV w R fb s f v) →
      Q0 (.exit 2) ⟨(.pointer (some ⟨p, 0, none⟩) :: c1 :: c2 :: .pointer (some ⟨bs, 0, none⟩) :: .pointer none :: .map (some ml) :: c6 :: c7 :: .map (some md) :: c9 :: u10 :: c11 :: c12 :: c13 :: c14 :: c15 :: c16 :: c17 :: c18 :: c19 :: c20 :: c21 :: c22 :: c23 :: c24 :: c25 :: c26 :: c27 :: c28 :: c29 :: c30 :: c31 :: c32 :: c33 :: c34 :: c35 :: c36 :: c37 :: c38 :: c39 :: c40 :: c41 :: c42 :: c43 :: c44 :: c45 :: c46 :: c47 :: c48 :: c49 :: c50 :: c51 :: c52 :: c53 :: c54 :: c55 :: c56 :: c57 :: .pointer (some ⟨it, 0, none⟩) :: u59 :: u60 :: u61 :: u62 :: u63 :: u64 :: u65 :: u66 :: u67 :: u68 :: u69 :: u70 :: u71 :: u72 :: u73 :: c74 :: c75 :: c76 :: c77 :: c78 :: c79 :: c80 :: c81 :: c82 :: c83 :: c84 :: c85 :: c86 :: c87 :: c88 :: c89 :: c90 :: c91 :: c92 :: c93 :: c94 :: c95 :: c96 :: c97 :: c98 :: c99 :: c100 :: c101 :: c102 :: c103 :: c104 :: c105 :: c106 :: c107 :: c108 :: c109 :: c110 :: c111 :: c112 :: c113 :: c114 :: c115 :: c116 :: c117 :: c118 :: c119 :: c120 :: c121 :: c122 :: c123 :: c124 :: c125 :: c126 :: c127 :: c128 :: c129 :: c130 :: c131 :: c132 :: c133 :: c134 :: c135 :: c136 :: c137 :: c138 :: c139 :: c140 :: c141 :: c142 :: c143 :: c144 :: c145 :: c146 :: c147 :: c148 :: c149 :: c150 :: c151 :: c152 :: c153 :: c154 :: c155 :: c156 :: c157 :: c158 :: c159 :: c160 :: c161 :: c162 :: c163 :: c164 :: c165 :: c166 :: c167 :: c168 :: c169 :: c170 :: c171 :: c172 :: c173 :: c174 :: c175 :: c176 :: c177 :: c178 :: c179 :: c180 :: c181 :: c182 :: c183 :: c184 :: c185 :: c186 :: c187 :: c188 :: c189 :: c190 :: c191 :: c192 :: c193 :: c194 :: c195 :: c196 :: c197 :: c198 :: c199 :: c200 :: c201 :: c202 :: c203 :: c204 :: c205 :: c206 :: c207 :: c208 :: c209 :: c210 :: c211 :: c212 :: ([] : List Value)).toArray, []⟩ w') :
    Code.wp Try.prog (Code.loop (stopLoop 1)) Q0 ⟨(.pointer (some ⟨p, 0, none⟩) :: c1 :: c2 :: .pointer (some ⟨bs, 0, none⟩) :: .pointer none :: .map (some ml) :: c6 :: c7 :: .map (some md) :: c9 :: u10 :: c11 :: c12 :: c13 :: c14 :: c15 :: c16 :: c17 :: c18 :: c19 :: c20 :: c21 :: c22 :: c23 :: c24 :: c25 :: c26 :: c27 :: c28 :: c29 :: c30 :: c31 :: c32 :: c33 :: c34 :: c35 :: c36 :: c37 :: c38 :: c39 :: c40 :: c41 :: c42 :: c43 :: c44 :: c45 :: c46 :: c47 :: c48 :: c49 :: c50 :: c51 :: c52 :: c53 :: c54 :: c55 :: c56 :: c57 :: .pointer (some ⟨it, 0, none⟩) :: u59 :: u60 :: u61 :: u62 :: u63 :: u64 :: u65 :: u66 :: u67 :: u68 :: u69 :: u70 :: u71 :: u72 :: u73 :: c74 :: c75 :: c76 :: c77 :: c78 :: c79 :: c80 :: c81 :: c82 :: c83 :: c84 :: c85 :: c86 :: c87 :: c88 :: c89 :: c90 :: c91 :: c92 :: c93 :: c94 :: c95 :: c96 :: c97 :: c98 :: c99 :: c100 :: c101 :: c102 :: c103 :: c104 :: c105 :: c106 :: c107 :: c108 :: c109 :: c110 :: c111 :: c112 :: c113 :: c114 :: c115 :: c116 :: c117 :: c118 :: c119 :: c120 :: c121 :: c122 :: c123 :: c124 :: c125 :: c126 :: c127 :: c128 :: c129 :: c130 :: c131 :: c132 :: c133 :: c134 :: c135 :: c136 :: c137 :: c138 :: c139 :: c140 :: c141 :: c142 :: c143 :: c144 :: c145 :: c146 :: c147 :: c148 :: c149 :: c150 :: c151 :: c152 :: c153 :: c154 :: c155 :: c156 :: c157 :: c158 :: c159 :: c160 :: c161 :: c162 :: c163 :: c164 :: c165 :: c166 :: c167 :: c168 :: c169 :: c170 :: c171 :: c172 :: c173 :: c174 :: c175 :: c176 :: c177 :: c178 :: c179 :: c180 :: c181 :: c182 :: c183 :: c184 :: c185 :: c186 :: c187 :: c188 :: c189 :: c190 :: c191 :: c192 :: c193 :: c194 :: c195 :: c196 :: c197 :: c198 :: c199 :: c200 :: c201 :: c202 :: c203 :: c204 :: c205 :: c206 :: c207 :: c208 :: c209 :: c210 :: c211 :: c212 :: ([] : List Value)).toArray, []⟩ w0 := by
  have hmx : maxList = 4194304 := rfl
  have hmax : maxLen = 9223372036854775807 := rfl
  have hmf := hok.manyFiles
  conv => arg 2; arg 1; whnf
  go_loopw [] (fun wr => ∃ left cnt k g, wr.ranges Try.prog 9 (plainElem Try.prog 3) ml it L.length (nameD L) left cnt ∧ k + cnt ≤ Maps.size (nameD L) ∧ Below w.heap.size w wr ∧ wr.heap[bs]? = some so ∧ DatMap wr md k g ∧ (∀ f, (g f).isSome = metBy L left f) ∧ (∀ f v, g f = some v → SureV w R fb s f v)) (fun wr => wr.rangeLeft ml it)
  case atStart =>
    refine ⟨_, _, 0, _, hm0, by omega, hb0, hbs, hg0, fun f => ?_, fun f v hv => by cases hv⟩
    show none.isSome = metBy L (has (nameD L)) f
    symm
    show metBy L (has (nameD L)) f = false
    unfold metBy
    rw [List.any_eq_false]
    intro q hq
    have : has (nameD L) (.string q.1) = true := by rw [nameD_has, rising_find hL.rising hq]; rfl
    simp [this]
  case round =>
    obtain ⟨left, cnt, k, g, hrg, hkc, hb, hbsr, hg, hgm, hgv⟩ := hrel
    go_wp2_with (at_next; refine wpList_next_ranges _ rfl _ rfl 9 (string_keyed Try.underlying9) (plainElem Try.prog 3) (fun x : List UInt8 => .string ⟨x.toArray⟩) (Value.int .i64) (fun key kl hkey => by obtain ⟨x, rfl, _⟩ := str_inv hkey; exact ⟨x, rfl⟩) (fun v y hv => by obtain ⟨c, rfl, _⟩ := plainElem_int_inv Try.underlying3 hv; exact ⟨c, rfl⟩) ml it L.length (nameD L) left cnt rfl hrg ?_ ?_)
    · intro hc0 hl0
      go_wp2
      have hall : ∀ f, metBy L left f = leadsTo L f := fun f => by unfold metBy leadsTo; simp [hl0]
      exact hexit _ _ _ _ _ _ _ _ _ _ _ _ _ _ _ _ wr g hb hbsr (ranges_owns hrg) (hg.mono (by omega)) (fun f => by rw [hgm, hall]) hgv
    · intro x c kl y1 y2 w1 cnt1 hkey hlk hv hat hrg1 hlt hg1 hs1 hen
      obtain ⟨x', ex, rfl⟩ := str_inv hkey
      obtain rfl : x = x' := by simpa using ex
      obtain ⟨c', ec, hy, hwc⟩ := plainElem_int_inv Try.underlying3 hv
      obtain ⟨rfl, rfl⟩ := Prod.mk.injEq _ _ _ _ ▸ hy
      obtain rfl : c = c' := by simpa using ec
      obtain ⟨m, hf, rfl⟩ := find_of_at hat
      have hmF := (hL.each _ (nlFind_mem hf)).1
      have hc1 : Chg (· = it) wr w1 := Chg.of_grown hg1 (fun k e _ => by cases e; rfl)
      have hb1 : Below w.heap.size w w1 := hb.grown hg1 hb.size (by intro k e; cases e; exact hit)
      have hD1 := h.below hb1
      obtain ⟨fbk, e', vd, vs', hfb, hfh, _, hbsu, hlf⟩ := hD1.file_at (n := m) hmF (by omega)
      have hlf0 : (Instr.lookup 59 (.map (some mf)) (.int .i64 (m : Int)) false).run Try.prog w1 = .ok (.pointer (some ⟨fbk, 0, none⟩)) w1 := hlf 0
      obtain ⟨sa, sc, rfl, _⟩ := hbsu.row
      have d1 := cell_of_heap hD1.cells (i := 1) (v := .map (some mf)) (by rfl)
      have d2 := cell_of_heap hfh (i := 1) (v := .slice sa (s.lasts m).length sc) (by rfl)
      obtain ⟨y, hy⟩ := hbsu.elem
      have hg1' := hg.of_chg hc1 hd2
      have hksz : Maps.size (nameD L) ≤ 8388608 := by rw [nameD_size]; exact hLn
      obtain ⟨w2, hst, hg2, hc2⟩ := hg1'.store (by omega) (f := m) (by omega) hy
      have hfk : fbk < w.heap.size := by
        have := h.lt (mem_own_fb (p := p) (mf := mf) (mn := mn) (vs := vs) (vw := vw) (List.mem_of_getElem? hfb)); exact this
      have hb2 : Below w.heap.size w w2 := hb1.trans ⟨hc2.os, hc2.tape, hc2.output, hc2.size, fun k hk => hc2.block k (by have := hb1.size; omega) (by omega)⟩
      have hsv : ∀ f v, (if f = m then some (Value.slice sa (s.lasts m).length sc) else g f) = some v → SureV w R fb s f v := by
        intro f v hv
        by_cases hfm : f = m
        · subst hfm
          simp at hv
          subst hv
          have hold := (hb1.block fbk hfk).symm.trans hfh
          have hbk : BytesIn w R (.slice sa (s.lasts f).length sc) (s.lasts f) := by
            obtain ⟨b0, e0, vd0, vs0, hfb0, hfh0, _, hb0', _⟩ := h.file_at (n := f) hmF (by omega)
            rw [hfb] at hfb0
            cases hfb0
            rw [hold] at hfh0
            simp at hfh0
            obtain ⟨⟨rfl, rfl⟩, _⟩ := hfh0
            exact hb0'
          exact ⟨fbk, vd, e', hfb, hold, hbk⟩
        · simp [hfm] at hv
          exact hgv f v hv
      have hmet : ∀ f, (if f = m then some (Value.slice sa (s.lasts m).length sc) else g f).isSome = metBy L (fun z => left z && !z.sameKey (.string x)) f := by
        intro f
        have hmem := nlFind_mem hf
        by_cases hfm : f = m
        · subst hfm
          simp only [if_true, Option.isSome_some]
          symm
          unfold metBy
          rw [List.any_eq_true]
          exact ⟨_, hmem, by simp [Lit.sameKey]⟩
        · simp only [hfm, if_false, hgm]
          unfold metBy
          rw [Bool.eq_iff_iff, List.any_eq_true, List.any_eq_true]
          constructor
          · rintro ⟨q, hq, hq2⟩
            refine ⟨q, hq, ?_⟩
            simp at hq2 ⊢
            exact ⟨.inl hq2.1, hq2.2⟩
          · rintro ⟨q, hq, hq2⟩
            refine ⟨q, hq, ?_⟩
            simp at hq2 ⊢
            refine ⟨?_, hq2.2⟩
            rcases hq2.1 with hl | hsk
            · exact hl
            · have hqx : q.1 = x := by simpa [Lit.sameKey] using hsk
              have : nlFind L q.1 = some q.2 := rising_find hL.rising hq
              rw [hqx, hf] at this
              simp at this
              omega
      have HSV := Lib.hid hsv; clear hsv
      have HMET := Lib.hid hmet; clear hmet
      have hbs2 := hc2.obj (hc1.obj hbsr (fun e => hd4 e.symm)) (fun e => hd3 e.symm)
      have hrg2 := hc2.ranges hrg1 (fun e => hd1 e.symm) (fun e => hd2 e.symm)
      have hleq := hrg2.left_eq
      have hleq0 := hrg.left_eq
      generalize (s.lasts m).length = dl at *
      clear hD1 hfh hbsu hgv hgm hg hg1'
      go_wp2
      go_roundw
      case rel => exact ⟨_, cnt1, k + 1, _, hrg2, by omega, hb2, hbs2, hg2, HMET.out, HSV.out⟩
      case measure => rw [hleq, hleq0]; omega

end Go.Proofs.Ytgckcnnnblggbaa
