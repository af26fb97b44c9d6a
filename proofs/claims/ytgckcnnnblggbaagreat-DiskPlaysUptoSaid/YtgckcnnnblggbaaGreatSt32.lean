/- Texts of this claim, one behind the other: DlD, DlI. -/
import Derived.Test.YtgckcnnnblggbaaGreatSt31
import Derived.Test.YtgckcnnnblggbaaGreatSt18
import Derived.Test.YtgckcnnnblggbaaGreatSt19
import Derived.Test.YtgckcnnnblggbaaGreatSt10
import Derived.Test.YtgckcnnnblggbaaGreatSt11
set_option linter.unusedSimpArgs false
set_option linter.unusedVariables false
/- Disk: Stop. -/
namespace Go.Proofs.YtgckcnnnblggbaaGreat
open Go.RowKit Go.Maps Go.Shelf

set_option maxRecDepth 1000000 in
set_option maxHeartbeats 16000000 in
theorem Stop_any {w : World} {p : Nat} {s : DSt} {R : Nat → Prop} {mf mn ms : Nat} {fb : List Nat} {vs vw : Value} {ss : List Value} {ws : List (List Value)} {e : TypeId} (h : DiskP w p s R mf mn ms fb vs vw ss ws e) {N : Nat} (hok : s.Ok N) (hN : N < maxList)
    {names torn : Int} (htorn : torn < 9223372036854775808) {ka : Option Addr} {kc : Nat} {keep : List Bool} (hkrow : RowAt w ka (keep.map Value.bool)) (hkeep : keep.length ≤ maxLen) :
    Calls Tryz.prog 10 #[.pointer (some ⟨p, 0, none⟩), .agg #[.int .i64 names, .slice ka keep.length kc, .int .i64 torn]] w fun e' w' => ∃ po own', e' = .returned (.pointer (some ⟨po, 0, none⟩)) ∧ DiskAt w' po (s.stop names keep torn) own' (RNew R w w' own') ∧ (∀ b ∈ own', w.heap.size ≤ b) ∧ Below w.heap.size w w' := by
  have hmx : maxList = 4194304 := rfl
  have hmfl : maxFile = 1099511627776 := rfl
  have hmax : maxLen = 9223372036854775807 := rfl
  have hmst := hok.manySteps
  obtain ⟨sa, sc, rfl, hsl, hsslen⟩ := RowAt.of_owns h.stepsR
  obtain ⟨wa, wc, rfl⟩ := row_slice h.writesR
  have hscap : s.steps.length ≤ sc := by
    rcases h.stepsR.2 with ⟨hv, hz⟩ | ⟨g, cap, cur, hv, _, _, hn, _⟩
    · rw [hz]; omega
    · cases hv; exact hn
  obtain ⟨w1, hw1⟩ : ∃ w1, w.alloc (.cells #[.int .i64 names, .slice ka keep.length kc, .int .i64 torn] 39) = w1 := ⟨_, rfl⟩
  have hb1 : Below w.heap.size w w1 := by rw [← hw1]; exact below_alloc _ _
  have hbs1 : w1.heap[w.heap.size]? = some (.cells #[.int .i64 names, .slice ka keep.length kc, .int .i64 torn] 39 (0, 0)) := by rw [← hw1]; exact World.alloc_heap_new w _
  have hD1 := h.below hb1
  have hth := there_any hD1.cells (mn := mn) (by rfl)
  have c3 := cell_of_heap hD1.cells (i := 3) (v := .map (some ms)) (by rfl)
  have hcn := cloneN_any hD1.sureM
  obtain ⟨m, hm⟩ : ∃ m, min names.toNat s.steps.length = m := ⟨_, rfl⟩
  have hmle : m ≤ s.steps.length := by omega
  have hmin : max (0 : Int) (min names (s.steps.length : Int)) = (m : Int) := by omega
  have hs1 := run_slice_hi (P := Tryz.prog) 71 109 Tryz.underlying71 Tryz.sizeOf109 sa s.steps.length sc m (by omega)
  have hp1 := heap_lt hD1.cells
  have hbl1 := heap_lt hbs1
  have HM := Lib.hid hm; clear hm
  go_enter Tryz.func10, Tryz.ntmps10
  go_wp2_with (first | (go_at_call 56; refine hth.mono ?_; rintro e1 w2 ⟨rfl, rfl⟩) | (go_at_call 31; refine hcn.mono ?_; rintro _ w2 ⟨rfl, hm2, hb2⟩; have c4 := cell_of_heap ((hb2.block p hp1).trans hD1.cells) (i := 4) (v := .slice sa s.steps.length sc) (by rfl); have b0 := cell_of_heap ((hb2.block w.heap.size hbl1).trans hbs1) (i := 0) (v := .int .i64 names) (by rfl)))
  go_region
  have hz1 := hb1.size
  have hz2 := hb2.size
  have hb2w : Below w.heap.size w w2.drew := (Chg.of_below (O := fun _ => False) (hb1.trans (hb2.mono hz1))).drew.below (fun _ h => h.elim)
  have hbs2 : w2.drew.heap[w.heap.size]? = some (.cells #[.int .i64 names, .slice ka keep.length kc, .int .i64 torn] 39 (0, 0)) := (hb2.block _ hbl1).trans hbs1
  have hm2d : w2.drew.ownsMap Tryz.prog 9 (plainElem Tryz.prog 3) w1.heap.size s.sure.length (nameD s.sure) := (Chg.refl (fun _ => False) w2).drew.map hm2 (fun h => h)
  have hw12 : w1.heap.size < w2.drew.heap.size := hm2d.lt
  generalize w2.drew = w2d at *
  go_wp2
  refine stop_loop1 (s := s) h hok hN (bs := w.heap.size) (ml := w1.heap.size) (m := m) hmle hsl hz1 (by omega) hb2w hbs2 hm2d _ _ _ _ _ _ _ _ _ _ _ _ _ _ _ _ _ _ _ _ _ _ _ _ _ _ _ _ _ _ _ _ _ _ _ _ _ _ _ _ _ _ _ _ _ _ _ _ _ _ _ _ _ _ _ _ _ _ _ _ _ _ _ _ _ _ _ _ _ _ _ _ _ _ _ _ _ _ _ _ _ _ _ _ _ _ _ _ _ _ _ _ _ _ _ _ _ _ _ _ _ _ _ _ _ _ _ _ _ _ _ _ _ _ _ _ _ _ _ _ _ _ _ _ _ _ _ _ _ _ _ _ _ _ _ _ _ _ _ _ _ _ _ _ _ _ _ _ _ _ _ _ _ _ _ _ _ _ _ _ _ _ _ _ _ _ _ _ _ _ _ _ _ _ _ _ _ _ _ _ _ _ _ _ _ _ _ _ _ _ _ _ _ _ _ _ _ _ _ _ _ _ _ _ _ _ ?_
  intro u7 u48 u49 u50 u51 u52 u53 u54 u55 w3 hb3 hbs3 hm3
  have hLn : ((s.steps.take m).foldl doStep s.sure).length ≤ 8388608 := by
    have := steps_len s.sure (s.steps.take m)
    have := hok.manySure
    simp only [List.length_take] at *
    omega
  have hLok : NamesOk ((s.steps.take m).foldl doStep s.sure) s.files.length := NamesOk.steps ⟨hok.risingSure, hok.sure⟩ (fun x hx => hok.steps x (List.mem_of_mem_take hx))
  have hLdef : stopNames s names = (s.steps.take m).foldl doStep s.sure := by
    unfold stopNames; rw [← HM.out, ← List.take_take, List.take_length]
  generalize (s.steps.take m).foldl doStep s.sure = L at *
  have hw3l := hm3.lt
  have hm3' : (w3.alloc (.map #[] 0)).ownsMap Tryz.prog 9 (plainElem Tryz.prog 3) w1.heap.size L.length (nameD L) := (Chg.alloc (fun _ => False) w3 _).map hm3 (fun h => h)
  have hmk := fun t w => run_makeMap (P := Tryz.prog) t w
  have HLD := Lib.hid hLdef; clear hLdef
  go_wp2_with (first | (at_range; refine wpList_range_own _ rfl _ 70 rfl 9 3 (string_keyed Tryz.underlying9) Tryz.underlying70 (plainElem Tryz.prog 3) w1.heap.size L.length (nameD L) rfl hm3' ?_; intro w5 hrg5 hg5 hs5) | go_in)
  go_frame
  have hA4 := World.size_alloc w3 (.map #[] 0)
  have hc45 : Chg (fun _ => False) (w3.alloc (.map #[] 0)) w5 := Chg.of_grown hg5 (by simp)
  have hc35 : Chg (fun _ => False) w3 w5 := (Chg.alloc (fun _ => False) w3 (.map #[] 0)).trans hc45 (fun _ h _ => h)
  have hb5 : Below w.heap.size w w5 := hb3.trans (hc35.below (fun _ h => h.elim) |>.mono hb3.size)
  have hmdm : DatMap w5 w3.heap.size 0 (fun _ => none) := (DatMap.made w3).of_chg hc45 (fun h => h)
  have hz3 := hb3.size
  refine stop_loop2 h hok hN (bs := w.heap.size) (ml := w1.heap.size) (md := w3.heap.size) (it := (w3.alloc (.map #[] 0)).heap.size) hLok hLn hz1 hz3 (by omega) (by omega) (by omega) (by omega) (by omega) (by omega) hb5 (hc35.obj hbs3 (fun h => h)) hrg5 hmdm _ _ _ _ _ _ _ _ _ _ _ _ _ _ _ _ _ _ _ _ _ _ _ _ _ _ _ _ _ _ _ _ _ _ _ _ _ _ _ _ _ _ _ _ _ _ _ _ _ _ _ _ _ _ _ _ _ _ _ _ _ _ _ _ _ _ _ _ _ _ _ _ _ _ _ _ _ _ _ _ _ _ _ _ _ _ _ _ _ _ _ _ _ _ _ _ _ _ _ _ _ _ _ _ _ _ _ _ _ _ _ _ _ _ _ _ _ _ _ _ _ _ _ _ _ _ _ _ _ _ _ _ _ _ _ _ _ _ _ _ _ _ _ _ _ _ _ _ _ _ _ _ _ _ _ _ _ _ _ _ _ _ _ _ _ _ _ _ _ _ _ _ _ _ _ _ _ _ _ _ _ _ _ _ _ _ _ _ _ _ _ _ _ _ _ _ _ _ _ _ _ _ _ _ _ _ _ ?_
  intro u10 u59 u60 u61 u62 u63 u64 u65 u66 u67 u68 u69 u70 u71 u72 u73 w6 g6 hb6 hbs6 hm6 hg6 hgs6 hgv6
  obtain ⟨w7, hw7⟩ : ∃ w7, w6.alloc (.cells #[] 113) = w7 := ⟨_, rfl⟩
  have hc67 : Chg (fun _ => False) w6 w7 := by rw [← hw7]; exact Chg.alloc _ _ _
  have hz7 : w7.heap.size = w6.heap.size + 1 := by rw [← hw7]; simp
  have hv0 : w7.ownsRow w6.heap.size 113 4 (.slice (some ⟨w6.heap.size, 0, none⟩) 0 0) 0 [] := ⟨rfl, .inr ⟨w6.heap.size, 0, #[], rfl, Nat.le_refl _, by rw [← hw7]; exact World.alloc_heap_new w6 _, Nat.le_refl _, by omega, rfl, rfl⟩⟩
  have hb7 : Below w.heap.size w w7 := hb6.trans (hc67.below (fun _ h => h.elim) |>.mono hb6.size)
  have hp7 := (hb7.block p (heap_lt h.cells)).trans h.cells
  have c5 := cell_of_heap hp7 (i := 5) (v := .slice wa s.writes.length wc) (by rfl)
  have hm7 := hc67.map hm6 (fun h => h)
  have hg7 := hg6.of_chg hc67 (fun h => h)
  have hbs7 := hc67.obj hbs6 (fun h => h)
  have hmdlt := hg6.lt
  have hmllt := hm6.lt
  obtain ⟨ps, e1, e2, e3⟩ := pairs_of ws s.writes h.count4 h.write
  have E1 := Lib.hid e1; have E2 := Lib.hid e2; clear e1 e2
  have HZ7 := Lib.hid hz7; clear hz7
  go_wp2
  refine stop_loop3 (s := s) (ps := ps) h hok hN (bs := w.heap.size) (ml := w1.heap.size) (md := w3.heap.size) (kb0 := w6.heap.size) hgs6 hkrow hkeep (by omega) (by omega) (by omega) (by omega) (by have := HZ7.out; omega) hb7 hbs7 hm7 hg7 E1.out E2.out e3 hv0 _ _ _ _ _ _ _ _ _ _ _ _ _ _ _ _ _ _ _ _ _ _ _ _ _ _ _ _ _ _ _ _ _ _ _ _ _ _ _ _ _ _ _ _ _ _ _ _ _ _ _ _ _ _ _ _ _ _ _ _ _ _ _ _ _ _ _ _ _ _ _ _ _ _ _ _ _ _ _ _ _ _ _ _ _ _ _ _ _ _ _ _ _ _ _ _ _ _ _ _ _ _ _ _ _ _ _ _ _ _ _ _ _ _ _ _ _ _ _ _ _ _ _ _ _ _ _ _ _ _ _ _ _ _ _ _ _ _ _ _ _ _ _ _ _ _ _ _ _ _ _ _ _ _ _ _ _ _ _ _ _ _ _ _ _ _ _ _ _ _ _ _ _ _ _ _ _ _ _ _ _ _ _ _ _ _ _ _ _ _ _ _ _ _ _ _ _ _ _ _ _ _ _ _ ?_
  intro u12 u13 u14 u15 u80 u81 u82 u83 u84 u85 u86 u87 u88 u89 u90 u91 u92 u93 u94 u95 u96 u97 u98 u99 u100 u101 u102 u103 u104 u105 u106 u107 u108 u109 u110 u111 v w8 hb8 hbs8 hm8 hg8 hv8
  have hbs8r := hv8
  obtain ⟨kp, hkp⟩ : ∃ kp, keptP L keep ps s.writes.length = kp := ⟨_, rfl⟩
  rw [hkp] at hv8
  clear hbs8r
  have hkl : kp.length ≤ s.writes.length := by rw [← hkp]; exact keptP_len _ _ _ _
  have hkmem : ∀ q ∈ kp, q ∈ ps ∧ leadsTo L q.2.file = true := fun q hq => keptP_mem (by rw [hkp]; exact hq)
  have hkK : kp.map (·.2) = keptW s L keep s.writes.length := by rw [← hkp]; exact keptP_snd E2.out _
  obtain ⟨ka', kc', rfl⟩ := row_slice hv8
  have hkv : KeptV w8 (.slice ka' kp.length kc') (kp.map (·.1)) := KeptV.of_owns (base := w6.heap.size) (by rw [List.length_map, List.map_map]; exact hv8)
  have hkcut : ∀ q ∈ kp, q.1.2.2.1 = q.2.cut := fun q hq => wv_cut (e3 q (hkmem q hq).1).2
  have hmw := hok.manyWrites
  have hmfi := hok.manyFiles
  have HKP := Lib.hid hkp; clear hkp
  have HKK := Lib.hid hkK; clear hkK
  go_wp2
  refine stop_loop4 (kp := kp) hkv hkcut (by omega) _ _ _ _ _ _ _ _ _ _ _ _ _ _ _ _ _ _ _ _ _ _ _ _ _ _ _ _ _ _ _ _ _ _ _ _ _ _ _ _ _ _ _ _ _ _ _ _ _ _ _ _ _ _ _ _ _ _ _ _ _ _ _ _ _ _ _ _ _ _ _ _ _ _ _ _ _ _ _ _ _ _ _ _ _ _ _ _ _ _ _ _ _ _ _ _ _ _ _ _ _ _ _ _ _ _ _ _ _ _ _ _ _ _ _ _ _ _ _ _ _ _ _ _ _ _ _ _ _ _ _ _ _ _ _ _ _ _ _ _ _ _ _ _ _ _ _ _ _ _ _ _ _ _ _ _ _ _ _ _ _ _ _ _ _ _ _ _ _ _ _ _ _ _ _ _ _ _ _ _ _ _ _ _ _ _ _ _ _ _ _ _ _ _ _ _ _ _ _ _ _ _ _ _ _ _ ?_
  intro u115 u116 u117 u118 u119 u120 u121 u122 u123 u124 u125
  obtain ⟨last, hlast⟩ : ∃ last, lastW (kp.map (·.2)) kp.length = last := ⟨_, rfl⟩
  rw [hlast]
  have hll : ∀ k, last = some k → k < 4194304 := fun k hk => by rw [hk] at hlast; have := lastW_lt hlast; omega
  have HLA := Lib.hid hlast; clear hlast
  have hwmem : ∀ q ∈ kp, q.2 ∈ s.writes := fun q hq => by rw [E2.out]; exact List.mem_map.2 ⟨q, (hkmem q hq).1, rfl⟩
  go_wp2
  refine stop_loop5 (w := w) (s := s) (R := R) (kp := kp) h.shared (L := L) (bs := w.heap.size) (ml := w1.heap.size) (md := w3.heap.size) htorn (last := last) hll hz3 hz1 (Nat.le_refl _) (by omega) (by omega) ?_ hb8 hbs8 hm8 hg8 hgs6 ?_ ?_ ?_ ?_ (by omega) ?_ hkv _ _ _ _ _ _ _ _ _ _ _ _ _ _ _ _ _ _ _ _ _ _ _ _ _ _ _ _ _ _ _ _ _ _ _ _ _ _ _ _ _ _ _ _ _ _ _ _ _ _ _ _ _ _ _ _ _ _ _ _ _ _ _ _ _ _ _ _ _ _ _ _ _ _ _ _ _ _ _ _ _ _ _ _ _ _ _ _ _ _ _ _ _ _ _ _ _ _ _ _ _ _ _ _ _ _ _ _ _ _ _ _ _ _ _ _ _ _ _ _ _ _ _ _ _ _ _ _ _ _ _ _ _ _ _ _ _ _ _ _ _ _ _ _ _ _ _ _ _ _ _ _ _ _ _ _ _ _ _ _ _ _ _ _ _ _ _ _ _ _ _ _ _ _ _ _ _ _ _ _ _ _ _ _ _ _ _ _ _ _ _ _ _ _ _ _ _ _ _ _ _ _ _ ?_
  · intro hk
    rcases hv8.2 with ⟨hv, _⟩ | ⟨g, cap, cur, hv, hg, _⟩
    · simp only [Value.slice.injEq] at hv
      obtain ⟨rfl, _⟩ := hv
      cases hk
    · simp only [Value.slice.injEq] at hv
      obtain ⟨rfl, _⟩ := hv
      simp [Value.ownBlock] at hk
      omega
  · intro f u hu
    obtain ⟨b, vd, e0, _, _, hby⟩ := hgv6 f u hu
    exact hby.kept (Chg.of_below (O := fun _ => False) hb8) (fun _ _ h => h) (fun _ h => h)
  · rw [nameD_size]; omega
  · exact hok.lasts_le
  · intro q hq
    obtain ⟨h1, h2⟩ := e3 q (hkmem q hq).1
    exact ⟨h1, h2, (hkmem q hq).2, (hok.writes _ (hwmem q hq)).2.1⟩
  · intro q hq
    have := (hok.writes _ (hwmem q hq)).1
    omega
  intro u17 u18 u19 u128 u129 u130 u131 u132 u133 u134 u135 u136 u137 u138 u139 u140 u141 u142 u143 u144 u145 u146 u147 u148 u149 u150 u151 u152 u153 u154 u155 u156 u157 u158 w9 g9 n9 hb9 hz89 hm9 hg9 hn9 hgs9 hgb9
  have hp9 := (hb9.block p (heap_lt h.cells)).trans h.cells
  have c0 := cell_of_heap hp9 (i := 0) (v := .int .i64 (s.room : Int)) (by rfl)
  have hroom := hok.room
  have hnew := new_any (cap := s.room) (by omega) w9
  obtain ⟨D, hD⟩ : ∃ D, (dataW s (kp.map (·.2)) last torn kp.length) = D := ⟨_, rfl⟩
  rw [hD] at hgb9
  have HD := Lib.hid hD; clear hD
  have hml9 := hm9.lt
  have hmd9 := hg9.lt
  have hz9 := hb9.size
  go_wp2_with (first
    | (go_at_call 22; refine hnew.mono ?_; rintro _ w10 ⟨po, own, rfl, hE, hown, hb10⟩; have cK := Keys_any (some w1.heap.size) w10; have hm10 := (Chg.of_below (O := fun _ => False) hb10).map hm9 (fun h => h); have cS := Sorted_any w1.heap.size _ L hLok.rising _ w10 hm10 (by omega))
    | (go_at_call 58; refine cK.mono ?_; rintro _ w10k ⟨rfl, rfl⟩)
    | (go_at_call 57; refine cS.mono ?_; rintro _ w11 ⟨vS, rfl, hrS, hnilS, hb11⟩; obtain ⟨vaS, vcS, rfl⟩ := row_slice hrS))
  obtain ⟨mf', mn', ms', fb', vs', vw', ss', ws', e', hE', rfl⟩ := hE
  obtain ⟨rfl, rfl, rfl⟩ := empty_files hE'
  have hb1011 : Below w10.heap.size w10 w11 := (below_alloc w10 _).trans (hb11.mono (by omega))
  have hE11 := hE'.below hb1011
  have hc911 : Chg (fun _ => False) w9 w11 := (Chg.of_below (O := fun _ => False) hb10).trans (Chg.of_below (O := fun _ => False) hb1011) (fun _ h _ => h)
  have hlt10 : ∀ b ∈ ownL po mf' mn' vs' vw' [], b < w10.heap.size := fun b hb => (hE'.own b hb).1
  have k1 := hown mf' mem_own_mf
  have k2 := hown mn' mem_own_mn
  have k3 := hown po mem_own_p
  have l1 := hlt10 mf' mem_own_mf
  have l2 := hlt10 mn' mem_own_mn
  have l3 := hlt10 po mem_own_p
  have hs10 := hb10.size
  have hs11 := hb1011.size
  obtain ⟨n1, n2, _⟩ := hE'.ne_p
  obtain ⟨m1, _⟩ := hE'.ne_mn
  have hw11 : Below w.heap.size w w11 := hb9.trans ((hc911.below (fun _ h => h.elim)).mono hz9)
  have hRB : ∀ b, RB R w8 w9 b → b < w9.heap.size := by
    rintro b (hb | hb)
    · have := h.shared b hb; omega
    · exact hb.2
  refine stop_loop6 (w := w) (RD := RB R w8 w9) (D := D) (L := L) (ml := w1.heap.size) (md := w3.heap.size) (po := po) (mf := mf') (mn := mn') (F := s.files.length) hLok (by omega) (by omega) hw11.size hw11 (by omega) (by omega) (fun e => m1 e.symm) hE11.cells n1 n2 rfl rfl (by omega) (by omega) (by omega) (by omega) ?_ hE11.filesM hE11.namesM (hc911.map hm9 (fun h => h)) (hg9.of_chg hc911 (fun h => h)) hgs9 (fun f u hu => (hgb9 f u hu).kept hc911 (fun _ _ h => h) (fun _ h => h)) (fun b hb => by have := hRB b hb; omega) ?_ _ _ _ _ _ _ _ _ _ _ _ _ _ _ _ _ _ _ _ _ _ _ _ _ _ _ _ _ _ _ _ _ _ _ _ _ _ _ _ _ _ _ _ _ _ _ _ _ _ _ _ _ _ _ _ _ _ _ _ _ _ _ _ _ _ _ _ _ _ _ _ _ _ _ _ _ _ _ _ _ _ _ _ _ _ _ _ _ _ _ _ _ _ _ _ _ _ _ _ _ _ _ _ _ _ _ _ _ _ _ _ _ _ _ _ _ _ _ _ _ _ _ _ _ _ _ _ _ _ _ _ _ _ _ _ _ _ _ _ _ _ _ _ _ _ _ _ _ _ _ _ _ _ _ _ _ _ _ _ _ _ _ _ _ _ _ _ _ _ _ _ _ _ _ _ _ _ _ _ _ _ _ _ _ _ _ _ _ _ _ _ _ _ _ _ _ _ _ _ _ _ _ _ _ _ _ _ ?_
  · rintro x rfl
    rcases hrS.2 with ⟨hv, _⟩ | ⟨g, cap, cur, hv, hg, _⟩
    · simp at hv
    · simp only [Value.slice.injEq, Option.some.injEq] at hv
      obtain ⟨rfl, _⟩ := hv
      show g ≠ _ ∧ g ≠ _
      omega
  · obtain ⟨a, cap, hv, hr, _⟩ := RowAt.of_owns hrS
    simp only [Value.slice.injEq] at hv
    obtain ⟨rfl, _⟩ := hv
    exact hr
  intro u23 u24 u171 u172 u173 u174 u175 u176 u177 u178 u179 u180 u181 u182 u183 u184 u185 u186 u187 u188 u189 u190 u191 u192 u193 u194 u195 u196 u197 u198 u199 u200 u201 u202 u203 w12 hO12
  have hO12' := hO12
  obtain ⟨fb12, a1, a2, a3, a4, a5, a6, a7, a8, a9⟩ := hO12'
  rw [List.take_length] at a6
  have hcn12 := cloneN_any a6
  have hpo12 := (a3.block po (by omega) (by omega)).trans hE11.cells
  have p2' := cell_of_heap hpo12 (i := 2) (v := .map (some mn')) (by rfl)
  have hpl12 := heap_lt hpo12
  have HO := Lib.hid hO12; clear hO12 a1 a3 a4 a5 a6 a7 a8 a9
  go_wp2_with (go_at_call 31; refine hcn12.mono ?_; rintro _ w13 ⟨rfl, hm13, hb13⟩; have q3 := cell_of_heap ((hb13.block po hpl12).trans hpo12) (i := 3) (v := .map (some ms')) (by rfl); have z3 := frozen_of_heap (i := 3) ((hb13.block po hpl12).trans hpo12))
  go_ret
  have hz8 := hb8.size
  obtain ⟨own', hA, hB, hC⟩ := DiskP.built (w := w) (R := R) hE' (fun b hb => by have := hown b hb; omega) (by omega) hb1011 HO.out hm13 hb13 (fun b hb => by
    rcases hb with hb | hb
    · exact .inl hb
    · refine .inr ⟨by omega, by omega, fun hm => ?_⟩
      have := hown b hm
      omega) h.shared
  have hlen : kp.length = (keptW s L keep s.writes.length).length := by rw [← HKK.out, List.length_map]
  have hst : s.stop names keep torn = DSt.ofFiles s.room (L.map fun p => (p.1, D p.2)) := by
    rw [stop_is, HLD.out, ← HD.out, ← HLA.out, HKK.out, hlen]
  rw [hst]
  exact ⟨po, own', rfl, hA, hB, hC⟩

end Go.Proofs.YtgckcnnnblggbaaGreat
/- Disk: the methods' contracts, of a disk whose blocks are new from lo on. -/
namespace Go.Proofs.YtgckcnnnblggbaaGreat
open Go.RowKit Go.Maps

/-- the program's disk s lies at p, and writes no block below lo -/
def Has (lo : Nat) (w : World) (p : Nat) (s : DSt) : Prop := ∃ own R, DiskAt w p s own R ∧ ∀ b ∈ own, lo ≤ b
theorem DiskAt.p_mem {w : World} {p : Nat} {s : DSt} {own : List Nat} {R : Nat → Prop} (h : DiskAt w p s own R) : p ∈ own := by
  obtain ⟨mf, mn, ms, fb, vs, vw, ss, ws, e, h1, rfl⟩ := h
  exact mem_own_p
theorem DiskAt.own_lt {w : World} {p : Nat} {s : DSt} {own : List Nat} {R : Nat → Prop} (h : DiskAt w p s own R) {b : Nat} (hb : b ∈ own) : b < w.heap.size := by
  obtain ⟨mf, mn, ms, fb, vs, vw, ss, ws, e, h1, rfl⟩ := h
  exact (h1.own b hb).1
theorem DiskAt.shared {w : World} {p : Nat} {s : DSt} {own : List Nat} {R : Nat → Prop} (h : DiskAt w p s own R) {b : Nat} (hb : R b) : b < w.heap.size ∧ b ∉ own := by
  obtain ⟨mf, mn, ms, fb, vs, vw, ss, ws, e, h1, rfl⟩ := h
  exact h1.hR b hb
theorem DiskAt.below {w w' : World} {p : Nat} {s : DSt} {own : List Nat} {R : Nat → Prop} (h : DiskAt w p s own R) (hb : Below w.heap.size w w') : DiskAt w' p s own R := by
  obtain ⟨mf, mn, ms, fb, vs, vw, ss, ws, e, h1, rfl⟩ := h
  exact ⟨mf, mn, ms, fb, vs, vw, ss, ws, e, h1.below hb, rfl⟩
theorem Has.lo {lo : Nat} {w : World} {p : Nat} {s : DSt} (h : Has lo w p s) : lo ≤ p ∧ p < w.heap.size := by
  obtain ⟨own, R, h1, h2⟩ := h
  exact ⟨h2 p h1.p_mem, h1.own_lt h1.p_mem⟩
theorem Has.below {lo : Nat} {w w' : World} {p : Nat} {s : DSt} (h : Has lo w p s) (hb : Below w.heap.size w w') : Has lo w' p s := by
  obtain ⟨own, R, h1, h2⟩ := h
  exact ⟨own, R, h1.below hb, h2⟩
theorem Has.of_turns {lo : Nat} {w w' : World} {p : Nat} {s' : DSt} {own : List Nat} {R : Nat → Prop} (h2 : ∀ b ∈ own, lo ≤ b) (hlo : lo ≤ w.heap.size) (ht : Turns w w' p s' own R) : Has lo w' p s' ∧ Below lo w w' := by
  obtain ⟨own', k1, k2, k3⟩ := ht
  refine ⟨⟨own', _, k1, fun b hb => ?_⟩, ⟨k2.os, k2.tape, k2.output, k2.size, fun y hy => k2.block y (by omega) (fun hm => by have := h2 y hm; omega)⟩⟩
  rcases k3 b hb with h | h
  · exact h2 b h
  · omega
section
variable {lo : Nat} {w : World} {p : Nat} {s : DSt} {N : Nat}
theorem Has.create (h : Has lo w p s) {k : List UInt8} (hk : k.length ≤ maxLen) (hok : s.Ok N) (hN : N + 1 < maxList) :
    Calls Tryz.prog 34 #[.pointer (some ⟨p, 0, none⟩), .string ⟨k.toArray⟩] w fun e w' => e = .returned (.int .i64 ((s.create k).2 : Int)) ∧ Has lo w' p (s.create k).1 ∧ Below lo w w' := by
  have hlo := h.lo
  obtain ⟨own, R, ⟨mf, mn, ms, fb, vs, vw, ss, ws, e, h1, rfl⟩, h2⟩ := h
  exact (Create_any h1 hk hok (by omega)).mono fun e w' ⟨k1, k2⟩ => ⟨k1, Has.of_turns h2 (by omega) k2⟩
theorem Has.put (h : Has lo w p s) {k : List UInt8} (hk : k.length ≤ maxLen) {at_ : Int} {xa : Option Addr} {xc : Nat} {l : List UInt8} (hrow : RowAt w xa (l.map bv)) (hnil : xa = none → xc = 0) (hl : l.length ≤ 140737488355328) (h64 : -9223372036854775808 ≤ at_ ∧ at_ < 9223372036854775808) (hok : s.Ok N) (hN : N + 1 < maxList) :
    Calls Tryz.prog 37 #[.pointer (some ⟨p, 0, none⟩), .string ⟨k.toArray⟩, .int .i64 at_, .slice xa l.length xc] w fun e w' => e = .returned (.int .i64 ((s.put k at_ l).2 : Int)) ∧ Has lo w' p (s.put k at_ l).1 ∧ Below lo w w' := by
  have hlo := h.lo
  obtain ⟨own, R, ⟨mf, mn, ms, fb, vs, vw, ss, ws, e, h1, rfl⟩, h2⟩ := h
  exact (Write_any h1 hk hok hN hrow hnil hl h64).mono fun e w' ⟨k1, k2⟩ => ⟨k1, Has.of_turns h2 (by omega) k2⟩
theorem Has.cut (h : Has lo w p s) {k : List UInt8} (hk : k.length ≤ maxLen) {size : Int} (h64 : -9223372036854775808 ≤ size ∧ size < 9223372036854775808) (hok : s.Ok N) (hN : N + 1 < maxList) :
    Calls Tryz.prog 41 #[.pointer (some ⟨p, 0, none⟩), .string ⟨k.toArray⟩, .int .i64 size] w fun e w' => e = .returned (.int .i64 ((s.cut k size).2 : Int)) ∧ Has lo w' p (s.cut k size).1 ∧ Below lo w w' := by
  have hlo := h.lo
  obtain ⟨own, R, ⟨mf, mn, ms, fb, vs, vw, ss, ws, e, h1, rfl⟩, h2⟩ := h
  exact (Cut_any h1 hk hok hN h64).mono fun e w' ⟨k1, k2⟩ => ⟨k1, Has.of_turns h2 (by omega) k2⟩
theorem Has.sync (h : Has lo w p s) {k : List UInt8} (hk : k.length ≤ maxLen) (hok : s.Ok N) (hN : N + 1 < maxList) :
    Calls Tryz.prog 43 #[.pointer (some ⟨p, 0, none⟩), .string ⟨k.toArray⟩] w fun e w' => e = .returned (.int .i64 ((s.sync k).2 : Int)) ∧ Has lo w' p (s.sync k).1 ∧ Below lo w w' := by
  have hlo := h.lo
  obtain ⟨own, R, ⟨mf, mn, ms, fb, vs, vw, ss, ws, e, h1, rfl⟩, h2⟩ := h
  exact (Sync_any h1 hk hok hN).mono fun e w' ⟨k1, k2⟩ => ⟨k1, Has.of_turns h2 (by omega) k2⟩
theorem Has.syncNames (h : Has lo w p s)  (hok : s.Ok N) (hN : N + 1 < maxList) :
    Calls Tryz.prog 45 #[.pointer (some ⟨p, 0, none⟩)] w fun e w' => e = .returned (.int .i64 ((s.syncNames).2 : Int)) ∧ Has lo w' p (s.syncNames).1 ∧ Below lo w w' := by
  have hlo := h.lo
  obtain ⟨own, R, ⟨mf, mn, ms, fb, vs, vw, ss, ws, e, h1, rfl⟩, h2⟩ := h
  exact (SyncNames_any h1 hok hN).mono fun e w' ⟨k1, k2⟩ => ⟨k1, Has.of_turns h2 (by omega) k2⟩
theorem Has.rename (h : Has lo w p s) {k t : List UInt8} (hk : k.length ≤ maxLen) (ht : t.length ≤ maxLen) (hok : s.Ok N) (hN : N + 1 < maxList) :
    Calls Tryz.prog 47 #[.pointer (some ⟨p, 0, none⟩), .string ⟨k.toArray⟩, .string ⟨t.toArray⟩] w fun e w' => e = .returned (.int .i64 ((s.rename k t).2 : Int)) ∧ Has lo w' p (s.rename k t).1 ∧ Below lo w w' := by
  have hlo := h.lo
  obtain ⟨own, R, ⟨mf, mn, ms, fb, vs, vw, ss, ws, e, h1, rfl⟩, h2⟩ := h
  exact (Rename_any h1 hk ht hok hN).mono fun e w' ⟨k1, k2⟩ => ⟨k1, Has.of_turns h2 (by omega) k2⟩
theorem Has.remove (h : Has lo w p s) {k : List UInt8} (hk : k.length ≤ maxLen) (hok : s.Ok N) (hN : N + 1 < maxList) :
    Calls Tryz.prog 49 #[.pointer (some ⟨p, 0, none⟩), .string ⟨k.toArray⟩] w fun e w' => e = .returned (.int .i64 ((s.remove k).2 : Int)) ∧ Has lo w' p (s.remove k).1 ∧ Below lo w w' := by
  have hlo := h.lo
  obtain ⟨own, R, ⟨mf, mn, ms, fb, vs, vw, ss, ws, e, h1, rfl⟩, h2⟩ := h
  exact (Remove_any h1 hk hok hN).mono fun e w' ⟨k1, k2⟩ => ⟨k1, Has.of_turns h2 (by omega) k2⟩
theorem Has.read (h : Has lo w p s) {k : List UInt8} (hk : k.length ≤ maxLen) {at_ n : Int} (h64 : -9223372036854775808 ≤ at_ ∧ at_ < 9223372036854775808) (hok : s.Ok N) (hN : N < maxList) :
    Calls Tryz.prog 51 #[.pointer (some ⟨p, 0, none⟩), .string ⟨k.toArray⟩, .int .i64 at_, .int .i64 n] w fun e w' => ∃ U, e = .returned (.tuple #[U, .int .i64 ((s.read k at_ n).2 : Int)]) ∧ BytesIn w' (NewIn w w') U (s.read k at_ n).1 ∧ Below w.heap.size w w' := by
  obtain ⟨own, R, ⟨mf, mn, ms, fb, vs, vw, ss, ws, e, h1, rfl⟩, h2⟩ := h
  exact Read_any h1 hk hok hN h64
theorem Has.size (h : Has lo w p s) {k : List UInt8} (hk : k.length ≤ maxLen) (hok : s.Ok N) (hN : N < maxList) :
    Calls Tryz.prog 54 #[.pointer (some ⟨p, 0, none⟩), .string ⟨k.toArray⟩] w fun e w' => e = .returned (.tuple #[.int .i64 ((s.size k).1 : Int), .int .i64 ((s.size k).2 : Int)]) ∧ Below w.heap.size w w' := by
  obtain ⟨own, R, ⟨mf, mn, ms, fb, vs, vw, ss, ws, e, h1, rfl⟩, h2⟩ := h
  exact Size_any h1 hk hok hN
theorem Has.pending (h : Has lo w p s)  :
    Calls Tryz.prog 17 #[.pointer (some ⟨p, 0, none⟩)] w fun e w' => e = .returned (.tuple #[.int .i64 (s.steps.length : Int), .int .i64 (s.writes.length : Int)]) ∧ Below w.heap.size w w' := by
  obtain ⟨own, R, ⟨mf, mn, ms, fb, vs, vw, ss, ws, e, h1, rfl⟩, h2⟩ := h
  exact Pending_any h1
theorem Has.steps (h : Has lo w p s)  :
    Calls Tryz.prog 64 #[.pointer (some ⟨p, 0, none⟩)] w fun e w' => e = .returned (.int .i64 (s.done : Int)) ∧ w = w' := by
  obtain ⟨own, R, ⟨mf, mn, ms, fb, vs, vw, ss, ws, e, h1, rfl⟩, h2⟩ := h
  exact Steps_any h1
theorem Has.capacity (h : Has lo w p s)  :
    Calls Tryz.prog 15 #[.pointer (some ⟨p, 0, none⟩)] w fun e w' => e = .returned (.int .i64 (s.room : Int)) ∧ w = w' := by
  obtain ⟨own, R, ⟨mf, mn, ms, fb, vs, vw, ss, ws, e, h1, rfl⟩, h2⟩ := h
  exact Capacity_any h1
theorem Has.room (h : Has lo w p s)  (hok : s.Ok N) (hN : N < maxList) :
    Calls Tryz.prog 65 #[.pointer (some ⟨p, 0, none⟩)] w fun e w' => e = .returned (.int .i64 ((s.room - s.used : Nat) : Int)) ∧ Below w.heap.size w w' := by
  obtain ⟨own, R, ⟨mf, mn, ms, fb, vs, vw, ss, ws, e, h1, rfl⟩, h2⟩ := h
  exact Room_any h1 hok hN
theorem Has.names (h : Has lo w p s)  (hok : s.Ok N) (hN : N < maxList) :
    Calls Tryz.prog 62 #[.pointer (some ⟨p, 0, none⟩)] w fun e w' => ∃ v, e = .returned (.tuple #[v, .int .i64 0]) ∧ w'.ownsRow w.heap.size 9 1 v s.names.length ((s.names.map (·.1)).map sv) ∧ Below w.heap.size w w' := by
  obtain ⟨own, R, ⟨mf, mn, ms, fb, vs, vw, ss, ws, e, h1, rfl⟩, h2⟩ := h
  exact Names_any h1 hok hN
theorem Has.files (h : Has lo w p s)  (hok : s.Ok N) (hN : N < maxList) :
    Calls Tryz.prog 14 #[.pointer (some ⟨p, 0, none⟩)] w fun e w' => ∃ v cs, e = .returned v ∧ FilesAt w' w.heap.size (w.heap.size + 1) v cs s.all ∧ Below w.heap.size w w' := by
  obtain ⟨own, R, ⟨mf, mn, ms, fb, vs, vw, ss, ws, e, h1, rfl⟩, h2⟩ := h
  exact Files_any h1 hok hN
theorem Has.stop (h : Has lo w p s) {names torn : Int} (htorn : torn < 9223372036854775808) {ka : Option Addr} {kc : Nat} {keep : List Bool} (hkrow : RowAt w ka (keep.map Value.bool)) (hkeep : keep.length ≤ maxLen) (hok : s.Ok N) (hN : N < maxList) :
    Calls Tryz.prog 10 #[.pointer (some ⟨p, 0, none⟩), .agg #[.int .i64 names, .slice ka keep.length kc, .int .i64 torn]] w fun e w' => ∃ po, e = .returned (.pointer (some ⟨po, 0, none⟩)) ∧ Has w.heap.size w' po (s.stop names keep torn) ∧ Below w.heap.size w w' := by
  obtain ⟨own, R, ⟨mf, mn, ms, fb, vs, vw, ss, ws, e, h1, rfl⟩, h2⟩ := h
  exact (Stop_any h1 hok hN htorn hkrow hkeep).mono fun e w' ⟨po, own', k1, k2, k3, k4⟩ => ⟨po, k1, ⟨own', _, k2, k3⟩, k4⟩
theorem Has.new {cap : Nat} (hc : cap ≤ 1099511627776) (w : World) : Calls Tryz.prog 22 #[.int .i64 (cap : Int)] w fun e w' => ∃ p, e = .returned (.tuple #[.pointer (some ⟨p, 0, none⟩), .int .i64 0]) ∧ Has w.heap.size w' p (DSt.empty cap) ∧ Below w.heap.size w w' :=
  (new_any hc w).mono fun e w' ⟨p, own, k1, k2, k3, k4⟩ => ⟨p, k1, ⟨own, _, k2, k3⟩, k4⟩
end
/-- a slice that a literal makes -/
theorem row_built (w : World) (cs : Array Value) (t : TypeId) : RowAt (w.alloc (.cells cs t)) (some ⟨w.heap.size, 0, none⟩) cs.toList := fun _ => ⟨w.heap.size, 0, rfl, fun j u hu => by rw [Nat.zero_add]; exact cell_new w cs t j u (by simpa using hu)⟩

end Go.Proofs.YtgckcnnnblggbaaGreat
