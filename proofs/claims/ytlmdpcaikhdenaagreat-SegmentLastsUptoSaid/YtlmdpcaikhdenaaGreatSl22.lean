/- Texts of this claim, one behind the other: DlD, DlF. -/
import Derived.Test.YtlmdpcaikhdenaaGreatSl20
import Derived.Test.YtlmdpcaikhdenaaGreatSl21
import Derived.Test.YtlmdpcaikhdenaaGreatSl12
import Derived.Test.YtlmdpcaikhdenaaGreatSl17
import Derived.Test.YtlmdpcaikhdenaaGreatSl19
set_option linter.unusedSimpArgs false
set_option linter.unusedVariables false
/- Disk: Stop. -/
namespace Go.Proofs.YtlmdpcaikhdenaaGreat
open Go.RowKit Go.Maps Go.Shelf

set_option maxRecDepth 1000000 in
set_option maxHeartbeats 16000000 in
theorem Stop_any {w : World} {p : Nat} {s : DSt} {R : Nat → Prop} {mf mn ms : Nat} {fb : List Nat} {vs vw : Value} {ss : List Value} {ws : List (List Value)} {e : TypeId} (h : DiskP w p s R mf mn ms fb vs vw ss ws e) {N : Nat} (hok : s.Ok N) (hN : N < maxList)
    {names torn : Int} (htorn : torn < 9223372036854775808) {ka : Option Addr} {kc : Nat} {keep : List Bool} (hkrow : RowAt w ka (keep.map Value.bool)) (hkeep : keep.length ≤ maxLen) :
    Calls Tryz.prog 23 #[.pointer (some ⟨p, 0, none⟩), .agg #[.int .i64 names, .slice ka keep.length kc, .int .i64 torn]] w fun e' w' => ∃ po own', e' = .returned (.pointer (some ⟨po, 0, none⟩)) ∧ DiskAt w' po (s.stop names keep torn) own' (RNew R w w' own') ∧ (∀ b ∈ own', w.heap.size ≤ b) ∧ Below w.heap.size w w' := by
  have hmx : maxList = 4194304 := rfl
  have hmfl : maxFile = 1099511627776 := rfl
  have hmax : maxLen = 9223372036854775807 := rfl
  have hmst := hok.manySteps
  obtain ⟨sa, sc, rfl, hsl, hsslen⟩ := RowAt.of_owns h.stepsR
  obtain ⟨wa, wc, rfl⟩ := row_slice h.writesR
  have hscap : s.steps.length ≤ sc := by
    rcases h.stepsR.2 with ⟨hv, hz⟩ | ⟨g, cap, cur, hv, _, _, hn, _⟩
    · rw [hz]; omega
    · cases hv; exact hn
  obtain ⟨w1, hw1⟩ : ∃ w1, w.alloc (.cells #[.int .i64 names, .slice ka keep.length kc, .int .i64 torn] 38) = w1 := ⟨_, rfl⟩
  have hb1 : Below w.heap.size w w1 := by rw [← hw1]; exact below_alloc _ _
  have hbs1 : w1.heap[w.heap.size]? = some (.cells #[.int .i64 names, .slice ka keep.length kc, .int .i64 torn] 38 (0, 0)) := by rw [← hw1]; exact World.alloc_heap_new w _
  have hD1 := h.below hb1
  have hth := there_any hD1.cells (mn := mn) (by rfl)
  have c3 := cell_of_heap hD1.cells (i := 3) (v := .map (some ms)) (by rfl)
  have hcn := cloneN_any hD1.sureM
  obtain ⟨m, hm⟩ : ∃ m, min names.toNat s.steps.length = m := ⟨_, rfl⟩
  have hmle : m ≤ s.steps.length := by omega
  have hmin : max (0 : Int) (min names (s.steps.length : Int)) = (m : Int) := by omega
  have hs1 := run_slice_hi (P := Tryz.prog) 110 118 Tryz.underlying110 Tryz.sizeOf118 sa s.steps.length sc m (by omega)
  have hp1 := heap_lt hD1.cells
  have hbl1 := heap_lt hbs1
  have HM := Lib.hid hm; clear hm
  go_enter Tryz.func23, Tryz.ntmps23
  go_wp2_with (first | (go_at_call 49; refine hth.mono ?_; rintro e1 w2 ⟨rfl, rfl⟩) | (go_at_call 50; refine hcn.mono ?_; rintro _ w2 ⟨rfl, hm2, hb2⟩; have c4 := cell_of_heap ((hb2.block p hp1).trans hD1.cells) (i := 4) (v := .slice sa s.steps.length sc) (by rfl); have b0 := cell_of_heap ((hb2.block w.heap.size hbl1).trans hbs1) (i := 0) (v := .int .i64 names) (by rfl)))
  go_region
  have hz1 := hb1.size
  have hz2 := hb2.size
  have hb2w : Below w.heap.size w w2.drew := (Chg.of_below (O := fun _ => False) (hb1.trans (hb2.mono hz1))).drew.below (fun _ h => h.elim)
  have hbs2 : w2.drew.heap[w.heap.size]? = some (.cells #[.int .i64 names, .slice ka keep.length kc, .int .i64 torn] 38 (0, 0)) := (hb2.block _ hbl1).trans hbs1
  have hm2d : w2.drew.ownsMap Tryz.prog 9 (plainElem Tryz.prog 3) w1.heap.size s.sure.length (nameD s.sure) := (Chg.refl (fun _ => False) w2).drew.map hm2 (fun h => h)
  have hw12 : w1.heap.size < w2.drew.heap.size := hm2d.lt
  generalize w2.drew = w2d at *
  go_wp2
  refine stop_loop1 (s := s) h hok hN (bs := w.heap.size) (ml := w1.heap.size) (m := m) hmle hsl hz1 (by omega) hb2w hbs2 hm2d _ _ _ _ _ _ _ _ _ _ _ _ _ _ _ _ _ _ _ _ _ _ _ _ _ _ _ _ _ _ _ _ _ _ _ _ _ _ _ _ _ _ _ _ _ _ _ _ _ _ _ _ _ _ _ _ _ _ _ _ _ _ _ _ _ _ _ _ _ _ _ _ _ _ _ _ _ _ _ _ _ _ _ _ _ _ _ _ _ _ _ _ _ _ _ _ _ _ _ _ _ _ _ _ _ _ _ _ _ _ _ _ _ _ _ _ _ _ _ _ _ _ _ _ _ _ _ _ _ _ _ _ _ _ _ _ _ _ _ _ _ _ _ _ _ _ _ _ _ _ _ _ _ _ _ _ _ _ _ _ _ _ _ _ _ _ _ _ _ _ _ _ _ _ _ _ _ _ _ _ _ _ _ _ _ _ _ _ _ _ _ _ _ _ _ _ _ _ _ _ _ _ _ _ _ _ ?_
  intro u7 u48 u49 u50 u51 u52 u53 u54 u55 w3 hb3 hbs3 hm3
  have hLn : ((s.steps.take m).foldl doStep s.sure).length ≤ 8388608 := by
    have := steps_len s.sure (s.steps.take m)
    have := hok.manySure
    simp only [List.length_take] at *
    omega
  have hLok : NamesOk ((s.steps.take m).foldl doStep s.sure) s.files.length := NamesOk.steps ⟨hok.risingSure, hok.sure⟩ (fun x hx => hok.steps x (List.mem_of_mem_take hx))
  have hLdef : stopNames s names = (s.steps.take m).foldl doStep s.sure := by
    unfold stopNames; rw [← HM.out, ← List.take_take, List.take_length]
  generalize (s.steps.take m).foldl doStep s.sure = L at *
  have hw3l := hm3.lt
  have hm3' : (w3.alloc (.map #[] 0)).ownsMap Tryz.prog 9 (plainElem Tryz.prog 3) w1.heap.size L.length (nameD L) := (Chg.alloc (fun _ => False) w3 _).map hm3 (fun h => h)
  have hmk := fun t w => run_makeMap (P := Tryz.prog) t w
  have HLD := Lib.hid hLdef; clear hLdef
  go_wp2_with (first | (at_range; refine wpList_range_own _ rfl _ 109 rfl 9 3 (string_keyed Tryz.underlying9) Tryz.underlying109 (plainElem Tryz.prog 3) w1.heap.size L.length (nameD L) rfl hm3' ?_; intro w5 hrg5 hg5 hs5) | go_in)
  go_frame
  have hA4 := World.size_alloc w3 (.map #[] 0)
  have hc45 : Chg (fun _ => False) (w3.alloc (.map #[] 0)) w5 := Chg.of_grown hg5 (by simp)
  have hc35 : Chg (fun _ => False) w3 w5 := (Chg.alloc (fun _ => False) w3 (.map #[] 0)).trans hc45 (fun _ h _ => h)
  have hb5 : Below w.heap.size w w5 := hb3.trans (hc35.below (fun _ h => h.elim) |>.mono hb3.size)
  have hmdm : DatMap w5 w3.heap.size 0 (fun _ => none) := (DatMap.made w3).of_chg hc45 (fun h => h)
  have hz3 := hb3.size
  refine stop_loop2 h hok hN (bs := w.heap.size) (ml := w1.heap.size) (md := w3.heap.size) (it := (w3.alloc (.map #[] 0)).heap.size) hLok hLn hz1 hz3 (by omega) (by omega) (by omega) (by omega) (by omega) (by omega) hb5 (hc35.obj hbs3 (fun h => h)) hrg5 hmdm _ _ _ _ _ _ _ _ _ _ _ _ _ _ _ _ _ _ _ _ _ _ _ _ _ _ _ _ _ _ _ _ _ _ _ _ _ _ _ _ _ _ _ _ _ _ _ _ _ _ _ _ _ _ _ _ _ _ _ _ _ _ _ _ _ _ _ _ _ _ _ _ _ _ _ _ _ _ _ _ _ _ _ _ _ _ _ _ _ _ _ _ _ _ _ _ _ _ _ _ _ _ _ _ _ _ _ _ _ _ _ _ _ _ _ _ _ _ _ _ _ _ _ _ _ _ _ _ _ _ _ _ _ _ _ _ _ _ _ _ _ _ _ _ _ _ _ _ _ _ _ _ _ _ _ _ _ _ _ _ _ _ _ _ _ _ _ _ _ _ _ _ _ _ _ _ _ _ _ _ _ _ _ _ _ _ _ _ _ _ _ _ _ _ _ _ _ _ _ _ _ _ _ _ _ _ _ ?_
  intro u10 u59 u60 u61 u62 u63 u64 u65 u66 u67 u68 u69 u70 u71 u72 u73 w6 g6 hb6 hbs6 hm6 hg6 hgs6 hgv6
  obtain ⟨w7, hw7⟩ : ∃ w7, w6.alloc (.cells #[] 125) = w7 := ⟨_, rfl⟩
  have hc67 : Chg (fun _ => False) w6 w7 := by rw [← hw7]; exact Chg.alloc _ _ _
  have hz7 : w7.heap.size = w6.heap.size + 1 := by rw [← hw7]; simp
  have hv0 : w7.ownsRow w6.heap.size 125 4 (.slice (some ⟨w6.heap.size, 0, none⟩) 0 0) 0 [] := ⟨rfl, .inr ⟨w6.heap.size, 0, #[], rfl, Nat.le_refl _, by rw [← hw7]; exact World.alloc_heap_new w6 _, Nat.le_refl _, by omega, rfl, rfl⟩⟩
  have hb7 : Below w.heap.size w w7 := hb6.trans (hc67.below (fun _ h => h.elim) |>.mono hb6.size)
  have hp7 := (hb7.block p (heap_lt h.cells)).trans h.cells
  have c5 := cell_of_heap hp7 (i := 5) (v := .slice wa s.writes.length wc) (by rfl)
  have hm7 := hc67.map hm6 (fun h => h)
  have hg7 := hg6.of_chg hc67 (fun h => h)
  have hbs7 := hc67.obj hbs6 (fun h => h)
  have hmdlt := hg6.lt
  have hmllt := hm6.lt
  obtain ⟨ps, e1, e2, e3⟩ := pairs_of ws s.writes h.count4 h.write
  have E1 := Lib.hid e1; have E2 := Lib.hid e2; clear e1 e2
  have HZ7 := Lib.hid hz7; clear hz7
  go_wp2
  refine stop_loop3 (s := s) (ps := ps) h hok hN (bs := w.heap.size) (ml := w1.heap.size) (md := w3.heap.size) (kb0 := w6.heap.size) hgs6 hkrow hkeep (by omega) (by omega) (by omega) (by omega) (by have := HZ7.out; omega) hb7 hbs7 hm7 hg7 E1.out E2.out e3 hv0 _ _ _ _ _ _ _ _ _ _ _ _ _ _ _ _ _ _ _ _ _ _ _ _ _ _ _ _ _ _ _ _ _ _ _ _ _ _ _ _ _ _ _ _ _ _ _ _ _ _ _ _ _ _ _ _ _ _ _ _ _ _ _ _ _ _ _ _ _ _ _ _ _ _ _ _ _ _ _ _ _ _ _ _ _ _ _ _ _ _ _ _ _ _ _ _ _ _ _ _ _ _ _ _ _ _ _ _ _ _ _ _ _ _ _ _ _ _ _ _ _ _ _ _ _ _ _ _ _ _ _ _ _ _ _ _ _ _ _ _ _ _ _ _ _ _ _ _ _ _ _ _ _ _ _ _ _ _ _ _ _ _ _ _ _ _ _ _ _ _ _ _ _ _ _ _ _ _ _ _ _ _ _ _ _ _ _ _ _ _ _ _ _ _ _ _ _ _ _ _ _ _ _ _ ?_
  intro u12 u13 u14 u15 u80 u81 u82 u83 u84 u85 u86 u87 u88 u89 u90 u91 u92 u93 u94 u95 u96 u97 u98 u99 u100 u101 u102 u103 u104 u105 u106 u107 u108 u109 u110 u111 v w8 hb8 hbs8 hm8 hg8 hv8
  have hbs8r := hv8
  obtain ⟨kp, hkp⟩ : ∃ kp, keptP L keep ps s.writes.length = kp := ⟨_, rfl⟩
  rw [hkp] at hv8
  clear hbs8r
  have hkl : kp.length ≤ s.writes.length := by rw [← hkp]; exact keptP_len _ _ _ _
  have hkmem : ∀ q ∈ kp, q ∈ ps ∧ leadsTo L q.2.file = true := fun q hq => keptP_mem (by rw [hkp]; exact hq)
  have hkK : kp.map (·.2) = keptW s L keep s.writes.length := by rw [← hkp]; exact keptP_snd E2.out _
  obtain ⟨ka', kc', rfl⟩ := row_slice hv8
  have hkv : KeptV w8 (.slice ka' kp.length kc') (kp.map (·.1)) := KeptV.of_owns (base := w6.heap.size) (by rw [List.length_map, List.map_map]; exact hv8)
  have hkcut : ∀ q ∈ kp, q.1.2.2.1 = q.2.cut := fun q hq => wv_cut (e3 q (hkmem q hq).1).2
  have hmw := hok.manyWrites
  have hmfi := hok.manyFiles
  have HKP := Lib.hid hkp; clear hkp
  have HKK := Lib.hid hkK; clear hkK
  go_wp2
  refine stop_loop4 (kp := kp) hkv hkcut (by omega) _ _ _ _ _ _ _ _ _ _ _ _ _ _ _ _ _ _ _ _ _ _ _ _ _ _ _ _ _ _ _ _ _ _ _ _ _ _ _ _ _ _ _ _ _ _ _ _ _ _ _ _ _ _ _ _ _ _ _ _ _ _ _ _ _ _ _ _ _ _ _ _ _ _ _ _ _ _ _ _ _ _ _ _ _ _ _ _ _ _ _ _ _ _ _ _ _ _ _ _ _ _ _ _ _ _ _ _ _ _ _ _ _ _ _ _ _ _ _ _ _ _ _ _ _ _ _ _ _ _ _ _ _ _ _ _ _ _ _ _ _ _ _ _ _ _ _ _ _ _ _ _ _ _ _ _ _ _ _ _ _ _ _ _ _ _ _ _ _ _ _ _ _ _ _ _ _ _ _ _ _ _ _ _ _ _ _ _ _ _ _ _ _ _ _ _ _ _ _ _ _ _ _ _ _ _ ?_
  intro u115 u116 u117 u118 u119 u120 u121 u122 u123 u124 u125
  obtain ⟨last, hlast⟩ : ∃ last, lastW (kp.map (·.2)) kp.length = last := ⟨_, rfl⟩
  rw [hlast]
  have hll : ∀ k, last = some k → k < 4194304 := fun k hk => by rw [hk] at hlast; have := lastW_lt hlast; omega
  have HLA := Lib.hid hlast; clear hlast
  have hwmem : ∀ q ∈ kp, q.2 ∈ s.writes := fun q hq => by rw [E2.out]; exact List.mem_map.2 ⟨q, (hkmem q hq).1, rfl⟩
  go_wp2
  refine stop_loop5 (w := w) (s := s) (R := R) (kp := kp) h.shared (L := L) (bs := w.heap.size) (ml := w1.heap.size) (md := w3.heap.size) htorn (last := last) hll hz3 hz1 (Nat.le_refl _) (by omega) (by omega) ?_ hb8 hbs8 hm8 hg8 hgs6 ?_ ?_ ?_ ?_ (by omega) ?_ hkv _ _ _ _ _ _ _ _ _ _ _ _ _ _ _ _ _ _ _ _ _ _ _ _ _ _ _ _ _ _ _ _ _ _ _ _ _ _ _ _ _ _ _ _ _ _ _ _ _ _ _ _ _ _ _ _ _ _ _ _ _ _ _ _ _ _ _ _ _ _ _ _ _ _ _ _ _ _ _ _ _ _ _ _ _ _ _ _ _ _ _ _ _ _ _ _ _ _ _ _ _ _ _ _ _ _ _ _ _ _ _ _ _ _ _ _ _ _ _ _ _ _ _ _ _ _ _ _ _ _ _ _ _ _ _ _ _ _ _ _ _ _ _ _ _ _ _ _ _ _ _ _ _ _ _ _ _ _ _ _ _ _ _ _ _ _ _ _ _ _ _ _ _ _ _ _ _ _ _ _ _ _ _ _ _ _ _ _ _ _ _ _ _ _ _ _ _ _ _ _ _ _ _ ?_
  · intro hk
    rcases hv8.2 with ⟨hv, _⟩ | ⟨g, cap, cur, hv, hg, _⟩
    · simp only [Value.slice.injEq] at hv
      obtain ⟨rfl, _⟩ := hv
      cases hk
    · simp only [Value.slice.injEq] at hv
      obtain ⟨rfl, _⟩ := hv
      simp [Value.ownBlock] at hk
      omega
  · intro f u hu
    obtain ⟨b, vd, e0, _, _, hby⟩ := hgv6 f u hu
    exact hby.kept (Chg.of_below (O := fun _ => False) hb8) (fun _ _ h => h) (fun _ h => h)
  · rw [nameD_size]; omega
  · exact hok.lasts_le
  · intro q hq
    obtain ⟨h1, h2⟩ := e3 q (hkmem q hq).1
    exact ⟨h1, h2, (hkmem q hq).2, (hok.writes _ (hwmem q hq)).2.1⟩
  · intro q hq
    have := (hok.writes _ (hwmem q hq)).1
    omega
  intro u17 u18 u19 u128 u129 u130 u131 u132 u133 u134 u135 u136 u137 u138 u139 u140 u141 u142 u143 u144 u145 u146 u147 u148 u149 u150 u151 u152 u153 u154 u155 u156 u157 u158 w9 g9 n9 hb9 hz89 hm9 hg9 hn9 hgs9 hgb9
  have hp9 := (hb9.block p (heap_lt h.cells)).trans h.cells
  have c0 := cell_of_heap hp9 (i := 0) (v := .int .i64 (s.room : Int)) (by rfl)
  have hroom := hok.room
  have hnew := new_any (cap := s.room) (by omega) w9
  obtain ⟨D, hD⟩ : ∃ D, (dataW s (kp.map (·.2)) last torn kp.length) = D := ⟨_, rfl⟩
  rw [hD] at hgb9
  have HD := Lib.hid hD; clear hD
  have hml9 := hm9.lt
  have hmd9 := hg9.lt
  have hz9 := hb9.size
  go_wp2_with (first
    | (go_at_call 16; refine hnew.mono ?_; rintro _ w10 ⟨po, own, rfl, hE, hown, hb10⟩; have cK := Keys_any (some w1.heap.size) w10; have hm10 := (Chg.of_below (O := fun _ => False) hb10).map hm9 (fun h => h); have cS := Sorted_any w1.heap.size _ L hLok.rising _ w10 hm10 (by omega))
    | (go_at_call 53; refine cK.mono ?_; rintro _ w10k ⟨rfl, rfl⟩)
    | (go_at_call 52; refine cS.mono ?_; rintro _ w11 ⟨vS, rfl, hrS, hnilS, hb11⟩; obtain ⟨vaS, vcS, rfl⟩ := row_slice hrS))
  obtain ⟨mf', mn', ms', fb', vs', vw', ss', ws', e', hE', rfl⟩ := hE
  obtain ⟨rfl, rfl, rfl⟩ := empty_files hE'
  have hb1011 : Below w10.heap.size w10 w11 := (below_alloc w10 _).trans (hb11.mono (by omega))
  have hE11 := hE'.below hb1011
  have hc911 : Chg (fun _ => False) w9 w11 := (Chg.of_below (O := fun _ => False) hb10).trans (Chg.of_below (O := fun _ => False) hb1011) (fun _ h _ => h)
  have hlt10 : ∀ b ∈ ownL po mf' mn' vs' vw' [], b < w10.heap.size := fun b hb => (hE'.own b hb).1
  have k1 := hown mf' mem_own_mf
  have k2 := hown mn' mem_own_mn
  have k3 := hown po mem_own_p
  have l1 := hlt10 mf' mem_own_mf
  have l2 := hlt10 mn' mem_own_mn
  have l3 := hlt10 po mem_own_p
  have hs10 := hb10.size
  have hs11 := hb1011.size
  obtain ⟨n1, n2, _⟩ := hE'.ne_p
  obtain ⟨m1, _⟩ := hE'.ne_mn
  have hw11 : Below w.heap.size w w11 := hb9.trans ((hc911.below (fun _ h => h.elim)).mono hz9)
  have hRB : ∀ b, RB R w8 w9 b → b < w9.heap.size := by
    rintro b (hb | hb)
    · have := h.shared b hb; omega
    · exact hb.2
  refine stop_loop6 (w := w) (RD := RB R w8 w9) (D := D) (L := L) (ml := w1.heap.size) (md := w3.heap.size) (po := po) (mf := mf') (mn := mn') (F := s.files.length) hLok (by omega) (by omega) hw11.size hw11 (by omega) (by omega) (fun e => m1 e.symm) hE11.cells n1 n2 rfl rfl (by omega) (by omega) (by omega) (by omega) ?_ hE11.filesM hE11.namesM (hc911.map hm9 (fun h => h)) (hg9.of_chg hc911 (fun h => h)) hgs9 (fun f u hu => (hgb9 f u hu).kept hc911 (fun _ _ h => h) (fun _ h => h)) (fun b hb => by have := hRB b hb; omega) ?_ _ _ _ _ _ _ _ _ _ _ _ _ _ _ _ _ _ _ _ _ _ _ _ _ _ _ _ _ _ _ _ _ _ _ _ _ _ _ _ _ _ _ _ _ _ _ _ _ _ _ _ _ _ _ _ _ _ _ _ _ _ _ _ _ _ _ _ _ _ _ _ _ _ _ _ _ _ _ _ _ _ _ _ _ _ _ _ _ _ _ _ _ _ _ _ _ _ _ _ _ _ _ _ _ _ _ _ _ _ _ _ _ _ _ _ _ _ _ _ _ _ _ _ _ _ _ _ _ _ _ _ _ _ _ _ _ _ _ _ _ _ _ _ _ _ _ _ _ _ _ _ _ _ _ _ _ _ _ _ _ _ _ _ _ _ _ _ _ _ _ _ _ _ _ _ _ _ _ _ _ _ _ _ _ _ _ _ _ _ _ _ _ _ _ _ _ _ _ _ _ _ _ _ _ _ _ _ ?_
  · rintro x rfl
    rcases hrS.2 with ⟨hv, _⟩ | ⟨g, cap, cur, hv, hg, _⟩
    · simp at hv
    · simp only [Value.slice.injEq, Option.some.injEq] at hv
      obtain ⟨rfl, _⟩ := hv
      show g ≠ _ ∧ g ≠ _
      omega
  · obtain ⟨a, cap, hv, hr, _⟩ := RowAt.of_owns hrS
    simp only [Value.slice.injEq] at hv
    obtain ⟨rfl, _⟩ := hv
    exact hr
  intro u23 u24 u171 u172 u173 u174 u175 u176 u177 u178 u179 u180 u181 u182 u183 u184 u185 u186 u187 u188 u189 u190 u191 u192 u193 u194 u195 u196 u197 u198 u199 u200 u201 u202 u203 w12 hO12
  have hO12' := hO12
  obtain ⟨fb12, a1, a2, a3, a4, a5, a6, a7, a8, a9⟩ := hO12'
  rw [List.take_length] at a6
  have hcn12 := cloneN_any a6
  have hpo12 := (a3.block po (by omega) (by omega)).trans hE11.cells
  have p2' := cell_of_heap hpo12 (i := 2) (v := .map (some mn')) (by rfl)
  have hpl12 := heap_lt hpo12
  have HO := Lib.hid hO12; clear hO12 a1 a3 a4 a5 a6 a7 a8 a9
  go_wp2_with (go_at_call 50; refine hcn12.mono ?_; rintro _ w13 ⟨rfl, hm13, hb13⟩; have q3 := cell_of_heap ((hb13.block po hpl12).trans hpo12) (i := 3) (v := .map (some ms')) (by rfl); have z3 := frozen_of_heap (i := 3) ((hb13.block po hpl12).trans hpo12))
  go_ret
  have hz8 := hb8.size
  obtain ⟨own', hA, hB, hC⟩ := DiskP.built (w := w) (R := R) hE' (fun b hb => by have := hown b hb; omega) (by omega) hb1011 HO.out hm13 hb13 (fun b hb => by
    rcases hb with hb | hb
    · exact .inl hb
    · refine .inr ⟨by omega, by omega, fun hm => ?_⟩
      have := hown b hm
      omega) h.shared
  have hlen : kp.length = (keptW s L keep s.writes.length).length := by rw [← HKK.out, List.length_map]
  have hst : s.stop names keep torn = DSt.ofFiles s.room (L.map fun p => (p.1, D p.2)) := by
    rw [stop_is, HLD.out, ← HD.out, ← HLA.out, HKK.out, hlen]
  rw [hst]
  exact ⟨po, own', rfl, hA, hB, hC⟩

end Go.Proofs.YtlmdpcaikhdenaaGreat
/- Disk: plain: what holds of a disk at all times is kept by each step. No program in sight. -/
namespace Go.Proofs.YtlmdpcaikhdenaaGreat
open Go.RowKit Go.Maps

theorem DSt.Ok.mono {s : DSt} {N M : Nat} (h : s.Ok N) (hm : N ≤ M) : s.Ok M where
  room := h.room
  names := h.names
  sure := h.sure
  rising := h.rising
  risingSure := h.risingSure
  steps := h.steps
  writes := h.writes
  files := h.files
  manyFiles := Nat.le_trans h.manyFiles hm
  manySteps := Nat.le_trans h.manySteps hm
  manyWrites := Nat.le_trans h.manyWrites hm
  manyNames := Nat.le_trans h.manyNames hm
  manySure := Nat.le_trans h.manySure hm
  done := Nat.le_trans h.done hm
theorem StepOk.mono {F G : Nat} {x : NStep} (h : StepOk F x) (hg : F ≤ G) : StepOk G x := by
  cases x with
  | create k n => exact ⟨Nat.lt_of_lt_of_le h.1 hg, h.2⟩
  | rename f t => exact h
  | remove k => exact h
theorem nameOk_iff {k : List UInt8} : nameOk k = true ↔ NameOk k := by unfold nameOk; simp
theorem DSt.Ok.step {s : DSt} {N : Nat} (h : s.Ok N) {x : NStep} (hx : StepOk s.files.length x) : (s.step x).Ok (N + 1) := by
  have hn : NamesOk (doStep s.names x) s.files.length := NamesOk.step ⟨h.rising, h.names⟩ hx
  have h1 := h.manySteps
  have h2 := doStep_le s.names x
  have h3 := h.manyNames
  have h4 := h.done
  exact {
    room := h.room
    names := hn.each
    sure := h.sure
    rising := hn.rising
    risingSure := h.risingSure
    steps := fun y hy => by
      rcases List.mem_append.1 hy with hy | hy
      · exact h.steps y hy
      · simp at hy; subst hy; exact hx
    writes := h.writes
    files := h.files
    manyFiles := Nat.le_succ_of_le h.manyFiles
    manySteps := by show (s.steps ++ [x]).length ≤ _; simp; omega
    manyWrites := Nat.le_succ_of_le h.manyWrites
    manyNames := by show (doStep s.names x).length ≤ _; omega
    manySure := Nat.le_succ_of_le h.manySure
    done := by show s.done + 1 ≤ _; omega }
/-- one more file, of no bytes -/
theorem DSt.Ok.addFile {s : DSt} {N : Nat} (h : s.Ok N) (h1 : s.files.length + 1 ≤ N) : ({ s with files := s.files ++ [([], [])] } : DSt).Ok N := by
  have hl : (s.files ++ [(([] : List UInt8), ([] : List UInt8))]).length = s.files.length + 1 := by simp
  exact {
    room := h.room
    names := fun p hp => ⟨by show p.2 < (s.files ++ [([], [])]).length; have := (h.names p hp).1; omega, (h.names p hp).2⟩
    sure := fun p hp => ⟨by show p.2 < (s.files ++ [([], [])]).length; have := (h.sure p hp).1; omega, (h.sure p hp).2⟩
    rising := h.rising
    risingSure := h.risingSure
    steps := fun x hx => (h.steps x hx).mono (by show _ ≤ (s.files ++ [([], [])]).length; omega)
    writes := fun x hx => ⟨by show x.file < (s.files ++ [([], [])]).length; have := (h.writes x hx).1; omega, (h.writes x hx).2⟩
    files := fun p hp => by
      rcases List.mem_append.1 hp with hp | hp
      · exact h.files p hp
      · simp at hp; subst hp; simp
    manyFiles := by show (s.files ++ [([], [])]).length ≤ N; omega
    manySteps := h.manySteps
    manyWrites := h.manyWrites
    manyNames := h.manyNames
    manySure := h.manySure
    done := h.done }
theorem DSt.Ok.create {s : DSt} {N : Nat} (h : s.Ok N) (k : List UInt8) : (s.create k).1.Ok (N + 1) := by
  unfold DSt.create
  cases hk : nameOk k
  · exact h.ticked
  · simp only [Bool.not_true, Bool.false_eq_true, if_false]
    cases hf : nlFind s.names k with
    | some n => exact h.ticked
    | none =>
      simp only [Option.isSome_none, Bool.false_eq_true, if_false]
      have h0 := h.manyFiles
      -- the files may be one more than the steps: reckon with N + 1 for the files alone
      have hx : StepOk (s.files ++ [(([] : List UInt8), ([] : List UInt8))]).length (.create k s.files.length) := ⟨by simp, nameOk_iff.1 hk⟩
      have hn : NamesOk s.names (s.files ++ [(([] : List UInt8), ([] : List UInt8))]).length := ⟨h.rising, fun p hp => ⟨by have := (h.names p hp).1; simp; omega, (h.names p hp).2⟩⟩
      have hn2 := hn.step hx
      have h1 := h.manySteps
      have h2 := doStep_le s.names (.create k s.files.length)
      have h3 := h.manyNames
      have h4 := h.done
      exact {
        room := h.room
        names := hn2.each
        sure := fun p hp => ⟨by show p.2 < (s.files ++ [([], [])]).length; have := (h.sure p hp).1; simp; omega, (h.sure p hp).2⟩
        rising := hn2.rising
        risingSure := h.risingSure
        steps := fun y hy => by
          rcases List.mem_append.1 hy with hy | hy
          · exact (h.steps y hy).mono (by show _ ≤ (s.files ++ [([], [])]).length; simp)
          · simp at hy; subst hy; exact hx
        writes := fun x hx => ⟨by show x.file < (s.files ++ [([], [])]).length; have := (h.writes x hx).1; simp; omega, (h.writes x hx).2⟩
        files := fun p hp => by
          rcases List.mem_append.1 hp with hp | hp
          · exact h.files p hp
          · simp at hp; subst hp; simp
        manyFiles := by show (s.files ++ [([], [])]).length ≤ _; simp; omega
        manySteps := by show (s.steps ++ [_]).length ≤ _; simp; omega
        manyWrites := Nat.le_succ_of_le h.manyWrites
        manyNames := Nat.le_trans h2 (by omega)
        manySure := Nat.le_succ_of_le h.manySure
        done := by show s.done + 1 ≤ _; omega }
theorem laid_len' (b : List UInt8) (x : Wr) {n m : Nat} (hn : n ≤ x.data.length) (hb : b.length ≤ m) (hx : x.place + x.data.length ≤ m) : (laid b x n).length ≤ m := by
  unfold laid
  split
  · simp; omega
  · split
    · exact hb
    · simp; omega
theorem DSt.Ok.write {s : DSt} {N : Nat} (h : s.Ok N) {x : Wr} (h1 : x.file < s.files.length) (h2 : x.place + x.data.length ≤ maxFile) (h3 : x.cut = true → x.data = []) : (s.write x).Ok (N + 1) := by
  have hlen : (s.files.set x.file (laid (s.stands x.file) x x.data.length, s.lasts x.file)).length = s.files.length := by simp
  have k1 := h.manyWrites
  have k2 := h.done
  have hst : (s.stands x.file).length ≤ maxFile := h.stands_le _
  have hls : (s.lasts x.file).length ≤ maxFile := by
    unfold DSt.lasts
    rw [List.getD_eq_getElem?_getD]
    cases hg : s.files[x.file]? with
    | none => simp
    | some d => exact (h.files d (List.mem_of_getElem? hg)).2
  exact {
    room := h.room
    names := fun p hp => ⟨by show p.2 < (s.files.set _ _).length; rw [hlen]; exact (h.names p hp).1, (h.names p hp).2⟩
    sure := fun p hp => ⟨by show p.2 < (s.files.set _ _).length; rw [hlen]; exact (h.sure p hp).1, (h.sure p hp).2⟩
    rising := h.rising
    risingSure := h.risingSure
    steps := fun y hy => by show StepOk (s.files.set _ _).length y; rw [hlen]; exact h.steps y hy
    writes := fun y hy => by
      show y.file < (s.files.set _ _).length ∧ _
      rw [hlen]
      rcases List.mem_append.1 hy with hy | hy
      · exact h.writes y hy
      · simp at hy; subst hy; exact ⟨h1, h2, h3⟩
    files := fun p hp => by
      rcases List.mem_or_eq_of_mem_set hp with hp | rfl
      · exact h.files p hp
      · exact ⟨laid_len' _ _ (Nat.le_refl _) hst h2, hls⟩
    manyFiles := by show (s.files.set _ _).length ≤ _; rw [hlen]; exact Nat.le_succ_of_le h.manyFiles
    manySteps := Nat.le_succ_of_le h.manySteps
    manyWrites := by show (s.writes ++ [x]).length ≤ _; simp; omega
    manyNames := Nat.le_succ_of_le h.manyNames
    manySure := Nat.le_succ_of_le h.manySure
    done := by show s.done + 1 ≤ _; omega }
theorem find_mem {l : NL} {k : List UInt8} {n : Nat} (h : nlFind l k = some n) : (k, n) ∈ l := nlFind_mem' h
theorem DSt.Ok.put {s : DSt} {N : Nat} (h : s.Ok N) (k : List UInt8) (at_ : Int) (b : List UInt8) : (s.put k at_ b).1.Ok (N + 1) := by
  unfold DSt.put
  cases hf : nlFind s.names k with
  | none => exact h.ticked
  | some f =>
    simp only []
    split
    · exact h.ticked
    · split
      · exact h.ticked
      · rename_i h1 h2
        have hm := find_mem hf
        have hge := used_ge hm
        have hr := h.room
        simp only at hge
        have hst := h.stands_le f
        refine h.write (h.names _ hm).1 ?_ (fun h => by cases h)
        simp only
        omega
theorem DSt.Ok.cut {s : DSt} {N : Nat} (h : s.Ok N) (k : List UInt8) (size : Int) : (s.cut k size).1.Ok (N + 1) := by
  unfold DSt.cut
  cases hf : nlFind s.names k with
  | none => exact h.ticked
  | some f =>
    simp only []
    split
    · exact h.ticked
    · rename_i h1
      have hm := find_mem hf
      have hst := h.stands_le f
      refine h.write (h.names _ hm).1 ?_ (fun _ => rfl)
      simp only [List.length_nil]
      omega
theorem DSt.Ok.sync {s : DSt} {N : Nat} (h : s.Ok N) (k : List UInt8) : (s.sync k).1.Ok (N + 1) := by
  unfold DSt.sync
  cases hf : nlFind s.names k with
  | none => exact h.ticked
  | some f =>
    simp only []
    have hlen : (s.files.set f (s.stands f, s.stands f)).length = s.files.length := by simp
    have k1 := h.manyWrites
    have k2 := h.done
    have k3 := List.length_filter_le (fun x : Wr => !(x.file == f)) s.writes
    exact {
      room := h.room
      names := fun p hp => ⟨by show p.2 < (s.files.set _ _).length; rw [hlen]; exact (h.names p hp).1, (h.names p hp).2⟩
      sure := fun p hp => ⟨by show p.2 < (s.files.set _ _).length; rw [hlen]; exact (h.sure p hp).1, (h.sure p hp).2⟩
      rising := h.rising
      risingSure := h.risingSure
      steps := fun y hy => by show StepOk (s.files.set _ _).length y; rw [hlen]; exact h.steps y hy
      writes := fun y hy => by
        show y.file < (s.files.set _ _).length ∧ _
        rw [hlen]
        exact h.writes y (List.mem_filter.1 hy).1
      files := fun p hp => by
        rcases List.mem_or_eq_of_mem_set hp with hp | rfl
        · exact h.files p hp
        · exact ⟨h.stands_le f, h.stands_le f⟩
      manyFiles := by show (s.files.set _ _).length ≤ _; rw [hlen]; exact Nat.le_succ_of_le h.manyFiles
      manySteps := Nat.le_succ_of_le h.manySteps
      manyWrites := by show (s.writes.filter _).length ≤ _; omega
      manyNames := Nat.le_succ_of_le h.manyNames
      manySure := Nat.le_succ_of_le h.manySure
      done := by show s.done + 1 ≤ _; omega }
theorem DSt.Ok.syncNames {s : DSt} {N : Nat} (h : s.Ok N) : (s.syncNames).1.Ok (N + 1) := by
  unfold DSt.syncNames
  have k2 := h.done
  exact {
    room := h.room
    names := h.names
    sure := h.names
    rising := h.rising
    risingSure := h.rising
    steps := fun y hy => by cases hy
    writes := h.writes
    files := h.files
    manyFiles := Nat.le_succ_of_le h.manyFiles
    manySteps := Nat.zero_le _
    manyWrites := Nat.le_succ_of_le h.manyWrites
    manyNames := Nat.le_succ_of_le h.manyNames
    manySure := Nat.le_succ_of_le h.manyNames
    done := by show s.done + 1 ≤ _; omega }
theorem DSt.Ok.rename {s : DSt} {N : Nat} (h : s.Ok N) (k t : List UInt8) : (s.rename k t).1.Ok (N + 1) := by
  unfold DSt.rename
  cases ht : nameOk t
  · exact h.ticked
  · simp only [Bool.not_true, Bool.false_eq_true, if_false]
    cases hf : nlFind s.names k with
    | none => exact h.ticked
    | some n => exact h.step ⟨(h.names _ (find_mem hf)).2, nameOk_iff.1 ht⟩
theorem DSt.Ok.remove {s : DSt} {N : Nat} (h : s.Ok N) (k : List UInt8) : (s.remove k).1.Ok (N + 1) := by
  unfold DSt.remove
  cases hf : nlFind s.names k with
  | none => exact h.ticked
  | some n => exact h.step (h.names _ (find_mem hf)).2
theorem DSt.Ok.empty {room : Nat} (hr : room ≤ maxFile) (N : Nat) : (DSt.mk room [] [] [] [] [] 0).Ok N where
  room := hr
  names := fun p hp => by cases hp
  sure := fun p hp => by cases hp
  rising := List.Pairwise.nil
  risingSure := List.Pairwise.nil
  steps := fun p hp => by cases hp
  writes := fun p hp => by cases hp
  files := fun p hp => by cases hp
  manyFiles := Nat.zero_le _
  manySteps := Nat.zero_le _
  manyWrites := Nat.zero_le _
  manyNames := Nat.zero_le _
  manySure := Nat.zero_le _
  done := Nat.zero_le _

/-- files that may be handed to a new disk -/
def FilesOk (l : List (List UInt8 × List UInt8)) : Prop := l.Pairwise (fun p q => bytesBefore p.1 q.1 = true) ∧ (∀ p ∈ l, NameOk p.1) ∧ ∀ p ∈ l, p.2.length ≤ maxFile
theorem ofNames_mem {l : List (List UInt8 × List UInt8)} {p : List UInt8 × Nat} (h : p ∈ l.zipIdx.map fun p => (p.1.1, p.2)) : p.2 < l.length ∧ ∃ q ∈ l, q.1 = p.1 := by
  obtain ⟨q, hq, rfl⟩ := List.mem_map.1 h
  obtain ⟨h1, h2, h3⟩ := List.mem_zipIdx hq
  exact ⟨by simpa using h2, q.1, by rw [h3]; exact List.getElem_mem _, rfl⟩
theorem ofNames_rising {l : List (List UInt8 × List UInt8)} (h : l.Pairwise (fun p q => bytesBefore p.1 q.1 = true)) : Rising (l.zipIdx.map fun p => (p.1.1, p.2)) := by
  unfold Rising
  rw [List.pairwise_map, List.pairwise_iff_getElem]
  intro i j hi hj hij
  simp only [List.getElem_zipIdx]
  simp only [List.length_zipIdx] at hi hj
  exact (List.pairwise_iff_getElem.1 h) i j hi hj hij
theorem DSt.Ok.ofFiles {room : Nat} {l : List (List UInt8 × List UInt8)} (hr : room ≤ maxFile) (hl : FilesOk l) : (DSt.ofFiles room l).Ok l.length := by
  have hn : ∀ p ∈ l.zipIdx.map (fun p => (p.1.1, p.2)), p.2 < (l.map fun p => (p.2, p.2)).length ∧ NameOk p.1 := fun p hp => by
    obtain ⟨h1, q, hq, e⟩ := ofNames_mem hp
    exact ⟨by simpa using h1, e ▸ hl.2.1 q hq⟩
  unfold DSt.ofFiles
  exact {
    room := hr
    names := hn
    sure := hn
    rising := ofNames_rising hl.1
    risingSure := ofNames_rising hl.1
    steps := fun p hp => by cases hp
    writes := fun p hp => by cases hp
    files := fun p hp => by
      obtain ⟨q, hq, rfl⟩ := List.mem_map.1 hp
      exact ⟨hl.2.2 q hq, hl.2.2 q hq⟩
    manyFiles := by simp
    manySteps := Nat.zero_le _
    manyWrites := Nat.zero_le _
    manyNames := by simp
    manySure := by simp
    done := Nat.zero_le _ }

/-! ### what a stop leaves -/
theorem DSt.Ok.lasts_le' {s : DSt} {N : Nat} (h : s.Ok N) (n : Nat) : (s.lasts n).length ≤ maxFile := by
  unfold DSt.lasts
  rw [List.getD_eq_getElem?_getD]
  cases hg : s.files[n]? with
  | none => simp
  | some d => exact (h.files d (List.mem_of_getElem? hg)).2
theorem stopFile_len {s : DSt} {N : Nat} (h : s.Ok N) (keep : List Bool) (last : Option Nat) (torn : Int) (f : Nat) : ∀ k, (stopFile s keep last torn f k).length ≤ maxFile
  | 0 => h.lasts_le' f
  | k + 1 => by
    have ih := stopFile_len h keep last torn f k
    unfold stopFile
    simp only []
    split
    · rename_i x hx
      split
      · refine laid_len' _ _ ?_ ih (h.writes x (List.mem_of_getElem? hx)).2.1
        unfold laidOf; split <;> omega
      · exact ih
    · exact ih
theorem steps_len' (l : NL) (xs : List NStep) : (xs.foldl doStep l).length ≤ l.length + xs.length := by
  induction xs generalizing l with
  | nil => simp
  | cons x r ih =>
    have := ih (doStep l x)
    have := doStep_le l x
    simp only [List.foldl_cons, List.length_cons]
    omega
theorem stopNames_ok {s : DSt} {N : Nat} (h : s.Ok N) (names : Int) : NamesOk (stopNames s names) s.files.length := NamesOk.steps ⟨h.risingSure, h.sure⟩ (fun x hx => h.steps x (List.mem_of_mem_take hx))
theorem stopNames_len {s : DSt} {N : Nat} (h : s.Ok N) (names : Int) : (stopNames s names).length ≤ N + N := by
  have := steps_len' s.sure (s.steps.take names.toNat)
  have := h.manySure
  have := h.manySteps
  unfold stopNames
  simp only [List.length_take] at *
  omega
theorem stop_filesOk {s : DSt} {N : Nat} (h : s.Ok N) (names : Int) (keep : List Bool) (torn : Int) : FilesOk ((stopNames s names).map fun p => (p.1, stopFile s keep (lastKept s (stopNames s names) keep s.writes.length) torn p.2 s.writes.length)) := by
  have hn := stopNames_ok h names
  refine ⟨?_, fun p hp => ?_, fun p hp => ?_⟩
  · rw [List.pairwise_map]; exact hn.rising
  · obtain ⟨q, hq, rfl⟩ := List.mem_map.1 hp
    exact (hn.each q hq).2
  · obtain ⟨q, hq, rfl⟩ := List.mem_map.1 hp
    exact stopFile_len h _ _ _ _ _
theorem DSt.Ok.stop {s : DSt} {N : Nat} (h : s.Ok N) (names : Int) (keep : List Bool) (torn : Int) : (s.stop names keep torn).Ok (N + N) := by
  unfold DSt.stop
  refine (DSt.Ok.ofFiles h.room (stop_filesOk h names keep torn)).mono ?_
  rw [List.length_map]
  exact stopNames_len h names

end Go.Proofs.YtlmdpcaikhdenaaGreat
