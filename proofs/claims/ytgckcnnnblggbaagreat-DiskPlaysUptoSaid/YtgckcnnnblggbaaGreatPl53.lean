/- Texts of this claim, one behind the other: RfI. -/
import Derived.Test.YtgckcnnnblggbaaGreatPl44
import Derived.Test.YtgckcnnnblggbaaGreatPl50
import Derived.Test.YtgckcnnnblggbaaGreatPl52
import Derived.Deep.CutBlock
set_option linter.unusedSimpArgs false
set_option linter.unusedVariables false
/- DiskPlays: the walk. (printed by gen/dplays.py) -/
namespace Go.Proofs.YtgckcnnnblggbaaGreat
open Go.RowKit Go.Maps

set_option maxRecDepth 100000 in
set_option maxHeartbeats 16000000 in
theorem diskPlays_walk {w : World} {cap : Int} {fa aa : Option Addr} {fc ac : Nat} {L : List (List UInt8 × List UInt8)} {xs : List AStep}
    (hA : FilesArg w fa L) (hxs : AStepsArg2 w aa xs) (hxo : ∀ x ∈ xs, x.Ok ∧ x.More2)
    (hLn : ∀ p ∈ L, p.1.length ≤ maxLen) (hLM : ∀ p ∈ L, p.2.length ≤ 1048576) (hbulk : L.length + xs.length ≤ 1048574) :
    Calls Tryz.prog 5 #[.agg #[.int .i64 cap, .slice fa L.length fc], .slice aa xs.length ac] w fun e w' => e = .returned (.bool true) ∧ Below w.heap.size w w' := by
  have hmx : maxList = 4194304 := rfl
  have hmax : maxLen = 9223372036854775807 := rfl
  have hmf : maxFile = 1099511627776 := rfl
  obtain ⟨w1, hw1⟩ : ∃ w1, w.alloc (.cells #[.int .i64 cap, .slice fa L.length fc] 24) = w1 := ⟨_, rfl⟩
  have hb1 : Below w.heap.size w w1 := by rw [← hw1]; exact below_alloc w _
  have b5 : w1.heap[w.heap.size]? = some (.cells #[.int .i64 cap, .slice fa L.length fc] 24 (0, 0)) := by rw [← hw1]; exact World.alloc_heap_new w _
  have c0 := cell_of_heap b5 (i := 0) (v := .int .i64 cap) (by rfl)
  have c1 := cell_of_heap b5 (i := 1) (v := .slice fa L.length fc) (by rfl)
  have hz1 : w1.heap.size = w.heap.size + 1 := by rw [← hw1]; simp
  have cK := known_any
  have cN := num_any
  have hlf := lentFiles_any (c := fc) (hA.below hb1) (by omega) (fun p hp => by have := hLM p hp; omega)
  have hn1 := new1 cap
  have hn2 := new2 cap
  have hs1 := fun (W : World) (g c : Nat) (h : FilesArg W (some ⟨g, 0, none⟩) L) => start1 (cap := cap) (c := c) h (by omega) (fun p hp => by have := hLM p hp; omega) hLn
  have hs2 := fun (W : World) (h : FilesArg W fa L) => start2 (cap := cap) (c := fc) h (by omega) (fun p hp => by have := hLM p hp; omega) hLn
  have hO1 : OkPO (startO cap []) L.length := (startO_okP (fun p hp => by cases hp)).mono (Nat.zero_le _)
  have hO2 : OkPO (startO cap L) L.length := startO_okP (fun p hp => by have := hLM p hp; omega)
  have hA1 := hA.below hb1
  clear b5
  go_enter Tryz.func5, Tryz.ntmps5
  go_upto_region 6 with (first
    | rw [hw1]
    | (go_at_call 21; refine hlf.mono ?_; rintro _ w2 ⟨gm, cm, bs, rfl, hm2, hb2⟩; have c02 := (hb2.cell (p := ⟨w.heap.size, 0, none⟩) (cell_lt c0)).trans c0; have c12 := (hb2.cell (p := ⟨w.heap.size, 1, none⟩) (cell_lt c1)).trans c1)
    | (go_at_call 22; refine (hn1 w2).mono ?_; rintro _ w3 ⟨q1, rfl, hh1, hb3⟩; have c03 := (hb3.cell (p := ⟨w.heap.size, 0, none⟩) (cell_lt c02)).trans c02; have c13 := (hb3.cell (p := ⟨w.heap.size, 1, none⟩) (cell_lt c12)).trans c12; have hm3 := hm2.below hb3)
    | (go_at_call 6; refine (hs1 w3 gm cm hm3.arg).mono ?_; rintro _ w4 ⟨q2, rfl, hh2, hb4⟩; have c04 := (hb4.cell (p := ⟨w.heap.size, 0, none⟩) (cell_lt c03)).trans c03; have c14 := (hb4.cell (p := ⟨w.heap.size, 1, none⟩) (cell_lt c13)).trans c13; have hm4 := hm3.below hb4)
    | (go_at_call 23; refine (hn2 w4).mono ?_; rintro _ w5 ⟨q3, rfl, hh3, hb5⟩; have c05 := (hb5.cell (p := ⟨w.heap.size, 0, none⟩) (cell_lt c04)).trans c04; have c15 := (hb5.cell (p := ⟨w.heap.size, 1, none⟩) (cell_lt c14)).trans c14; have hm5 := hm4.below hb5; have hA5 := (((hA1.below hb2).below hb3).below hb4).below hb5)
    | (go_at_call 7; refine (hs2 w5 hA5).mono ?_; rintro _ w6 ⟨q4, rfl, hh4, hb6⟩; have c06 := (hb6.cell (p := ⟨w.heap.size, 0, none⟩) (cell_lt c05)).trans c05; have c16 := (hb6.cell (p := ⟨w.heap.size, 1, none⟩) (cell_lt c15)).trans c15; have hm6 := hm5.below hb6; have hA6 := hA5.below hb6))
  have s2 := hb2.size
  have s3 := hb3.size
  have s4 := hb4.size
  have s5 := hb5.size
  have s6 := hb6.size
  have hlf6 := leftFiles_any (c2 := fc) hm6 hA6 (by omega) (fun p hp => by have := hLM p hp; omega)
  have hcs2 := fun b (hb : SpoilB (.slice (some ⟨gm, 0, none⟩) L.length cm) L.length (((L.zip bs).map encL).flatten) b) => (hm2.spoilOk (fun p hp => by have := hLM p hp; omega)).lt hb
  have hsp := fun (W : World) (hW : Below w6.heap.size w6 W) => spoil_any ((hm6.below hW).spoilOk (fun p hp => by have := hLM p hp; omega)) (by omega)
  have hts := fun (bt br : Nat) => three_start (bt := bt) (br := br) hh1 hh2 hh3 hh4 hb4 hb5 hb6 s3
  have e13 := (hts w6.heap.size w6.heap.size (Nat.le_refl _) (Nat.le_refl _)).1.1
  have e24 := (hts w6.heap.size w6.heap.size (Nat.le_refl _) (Nat.le_refl _)).1.2
  have HT := Lib.hid (And.intro hts (And.intro hcs2 hsp))
  have hb16 : Below w1.heap.size w1 w6 := hb2.trans ((hb3.trans ((hb4.trans ((hb5.trans (hb6.mono s5)).mono s4)).mono s3)).mono s2)
  clear c02 c12 c03 c13 c04 c14 c05 c15 hm3 hm4 hm5 hA5 hh1 hh2 hh3 hh4 hlf hn1 hn2 hs1 hs2 hts hcs2 hsp hA1
  obtain ⟨E1, hE1⟩ : ∃ E, startE (startO cap []) = E := ⟨_, rfl⟩
  obtain ⟨E2, hE2⟩ : ∃ E, startE (startO cap L) = E := ⟨_, rfl⟩
  rw [hE1, hE2]
  clear hE1 hE2
  have f1 : (E1 != E1) = false := by simp
  have f2 : (E2 != E2) = false := by simp
  go_upto_region 9 with (first
    | (go_at_call 8; refine (cN _ _).mono ?_; rintro _ wn ⟨rfl, rfl⟩)
    | (go_at_call 24; refine hlf6.mono ?_; rintro _ w7 ⟨rfl, hb7⟩)
    | (go_at_call 25; refine (HT.out.2.2 w7 hb7).mono ?_; rintro _ w8 ⟨rfl, hc8⟩))
  clear hlf6 f1 f2 hm6 hA6 c06 c16 hm2 c0 c1
  obtain ⟨w9, hw9⟩ : ∃ w9, w8.alloc (.cells #[.pointer q1, .pointer q2, .pointer none] 63) = w9 := ⟨_, rfl⟩
  obtain ⟨w10, hw10⟩ : ∃ w10, w9.alloc (.cells #[.pointer q3, .pointer q4, .pointer none] 64) = w10 := ⟨_, rfl⟩
  have HW9 := Lib.hid (And.intro hw9 hw10)
  clear hw9 hw10
  go_upto_region 11 with (fail)
  rw [HW9.out.1, HW9.out.2]
  have s8 := hc8.size
  have s7 := hb7.size
  have hb9 : Below w8.heap.size w8 w9 := by rw [← HW9.out.1]; exact below_alloc _ _
  have hb10 : Below w9.heap.size w9 w10 := by rw [← HW9.out.2]; exact below_alloc _ _
  have hz9 : w9.heap.size = w8.heap.size + 1 := by rw [← HW9.out.1]; simp
  have hz10 : w10.heap.size = w9.heap.size + 1 := by rw [← HW9.out.2]; simp
  have hbt : w10.heap[w8.heap.size]? = some (.cells (ptrs [q1, q2, none]) 63 (0, 0)) := (hb10.block _ (by omega)).trans (by rw [← HW9.out.1]; exact World.alloc_heap_new w8 _)
  have hbr : w10.heap[w8.heap.size + 1]? = some (.cells (ptrs [q3, q4, none]) 64 (0, 0)) := by rw [← hz9, ← HW9.out.2]; exact World.alloc_heap_new w9 _
  have hb08 : Below w.heap.size w w8 := hb1.trans ((((Chg.of_below (O := fun b => w1.heap.size ≤ b) (hb16.trans (hb7.mono hb16.size))).trans hc8 (fun b hb _ => (HT.out.2.1 b hb).1)).below (fun _ h => h)).mono hb1.size)
  have hb010 : Below w.heap.size w w10 := hb08.trans ((hb9.trans (hb10.mono hb9.size)).mono hb08.size)
  have hP0 : PlaysAt w2.heap.size w8.heap.size (w8.heap.size + 1) (L.length + 0) w10 := by
    obtain ⟨_, F, G, hT⟩ := HT.out.1 w8.heap.size (w8.heap.size + 1) (by omega) (by omega)
    have hT7 := (hT.below hb7).kept hc8 (fun i b hb hO => by have := (HT.out.2.1 b hO).2; have := (hT.ltF i b hb).1; omega) (fun i b hb hO => by have := (HT.out.2.1 b hO).2; have := (hT.ltG i b hb).1; omega)
    refine ⟨_, _, _, F, G, ⟨rfl, rfl, rfl⟩, hbt, hbr, (hT7.below hb9).below hb10, fun i o ho => ?_⟩
    match i, ho with
    | 0, ho => simp only [List.getElem?_cons_zero, Option.some.injEq] at ho; subst ho; exact hO1
    | 1, ho => simp only [List.getElem?_cons_succ, List.getElem?_cons_zero, Option.some.injEq] at ho; subst ho; exact hO2
    | 2, ho => simp only [List.getElem?_cons_succ, List.getElem?_cons_zero, Option.some.injEq] at ho; subst ho; exact OkPO.none _
    | n + 3, ho => simp at ho
  obtain ⟨bt, ebt⟩ : ∃ bt, w8.heap.size = bt := ⟨_, rfl⟩
  have hlo2 : w2.heap.size ≤ bt := by omega
  have hlo0 : w.heap.size < w2.heap.size := by omega
  rw [ebt] at hP0 ⊢
  have hbtl : bt + 1 < w10.heap.size := by omega
  clear hbt hbr hb08 HT hc8 hb7 hb9 hb10 hz9 hz10 s2 s3 s4 s5 s6 s7 s8 e13 e24 hb16 HW9 hO1 hO2 hw1 hz1 hb2 hb3 hb4 hb5 hb6 ebt
  clear w9 w8 w7
  go_wp2
  go_loopw [16] (fun i wr => ∃ k : Nat, k ≤ xs.length ∧ i = .int .i64 k ∧ Below w.heap.size w wr ∧ w10.heap.size ≤ wr.heap.size ∧ PlaysAt w2.heap.size bt (bt + 1) (L.length + k) wr) (fun i _ => xs.length - (RowKit.intOf i).toNat)
  case atStart => exact ⟨0, by omega, rfl, hb010, Nat.le_refl _, hP0⟩
  case round =>
    clear hP0
    obtain ⟨k, hk, rfl, hb, hsz, hP⟩ := hrel
    by_cases hlt : k < xs.length
    · obtain ⟨x, hx⟩ : ∃ x, xs[k]? = some x := ⟨xs[k]'hlt, by simp⟩
      obtain ⟨xb, xo, rfl, hcs⟩ := hxs (fun e => by
        have h0 : xs.length = 0 := by rw [e]; rfl
        omega)
      obtain ⟨da, ka, dc, kc, hcell0, hnil, hrow0, hkr0⟩ := hcs k x hx
      obtain ⟨hxok, hkeep, hst64, hwho64⟩ := hxo x (List.mem_of_getElem? hx)
      have hcell : ∀ (j : Nat) u, (encA x da dc ka kc)[j]? = some u → wr.cell? ⟨xb, xo + k * 10 + j, none⟩ = some u := fun j u hu => (hb.cell (p := ⟨xb, xo + k * 10 + j, none⟩) (cell_lt (hcell0 j u hu))).trans (hcell0 j u hu)
      have h0 : wr.cell? ⟨xb, xo + k * 10, none⟩ = some (.int .i64 x.kind) := by have := hcell 0 (.int .i64 x.kind) rfl; simpa using this
      have h1 := hcell 1 (.int .i64 x.who) rfl
      have h2 := hcell 2 (.string ⟨x.name.toArray⟩) rfl
      have h3 := hcell 3 (.string ⟨x.dst.toArray⟩) rfl
      have h4 := hcell 4 (.int .i64 x.at_) rfl
      have h5 := hcell 5 (.int .i64 x.n) rfl
      have h6 := hcell 6 (.slice da x.data.length dc) rfl
      have h7 := hcell 7 (.int .i64 x.sn) rfl
      have h8 := hcell 8 (.slice ka x.keep.length kc) rfl
      have h9 := hcell 9 (.int .i64 x.st) rfl
      have hdl := bytes_lt hrow0
      obtain ⟨wb, hwb⟩ : ∃ wb, wr.alloc (.cells (encA x da dc ka kc) 41) = wb := ⟨_, rfl⟩
      have hbb : Below wr.heap.size wr wb := by rw [← hwb]; exact below_alloc _ _
      have hB : wb.heap[wr.heap.size]? = some (.cells (encA x da dc ka kc) 41 (0, 0)) := by rw [← hwb]; exact World.alloc_heap_new wr _
      have hzb : wb.heap.size = wr.heap.size + 1 := by rw [← hwb]; simp
      have b0 := cell_of_heap hB (i := 0) (v := .int .i64 x.kind) rfl
      have b1 := cell_of_heap hB (i := 1) (v := .int .i64 x.who) rfl
      have b4 := cell_of_heap hB (i := 4) (v := .int .i64 x.at_) rfl
      have j0 : (0 : Int) ≤ (k : Int) := by omega
      have j1 : (k : Int) < (xs.length : Int) := by omega
      obtain ⟨who, hwho⟩ : ∃ n, placeN x.who = n := ⟨_, rfl⟩
      obtain ⟨dst, hdst⟩ : ∃ n, placeN x.at_ = n := ⟨_, rfl⟩
      have hw3 : who < 3 := by rw [← hwho]; exact placeN_lt _
      have hd3 : dst < 3 := by rw [← hdst]; exact placeN_lt _
      have hpw := fun W => place_any x.who W hwho64
      have hpd := fun W => place_any x.at_ W hxok.at64
      rw [hwho] at hpw
      rw [hdst] at hpd
      have HWB := Lib.hid hwb
      have HX := Lib.hid (And.intro hx (And.intro hcs hxok))
      have HK := Lib.hid (And.intro hkr0 (And.intro hrow0 (And.intro hnil (And.intro hdl (And.intro hwho hdst)))))
      have HB := Lib.hid (And.intro hB hzb)
      clear hwb hx hcs hxok hcell hcell0 hkr0 hrow0 hnil hdl hwho hdst hB hzb
      go_upto_region 15 with fail
      unfold encA at HWB
      rw [HWB.out]
      clear HWB h0 h1 h2 h3 h4 h5 h6 h7 h8 h9
      refine wp_region_held_drew (S := fun w' => w'.cell? ⟨wr.heap.size, 1, none⟩ = some (.int .i64 x.who) ∧ w'.cell? ⟨wr.heap.size, 4, none⟩ = some (.int .i64 x.at_)) (by kernel_rfl) (⟨b1, b4⟩) (fun hHeld => ?_)
      refine wpAnyH_take (i := 0) (v := ?_) rfl (by kernel_rfl) (by kernel_rfl) (by kernel_rfl) (fun _ _ _ h => h) (Or.inl ⟨by rfl, ?_⟩) hHeld ?_
      rotate_left
      · intro w hSw; (try dsimp only at hSw); go_simp
        all_goals (with_reducible rfl)
      (try simp only [Act.put, List.getElem_toArray, List.getElem_cons_succ, List.getElem_cons_zero, List.setIfInBounds_toArray, List.set_cons_zero, List.set_cons_succ])
      refine wpAnyH_take (i := 1) (v := ?_) rfl (by kernel_rfl) (by kernel_rfl) (by kernel_rfl) (fun _ _ _ h => h) (Or.inl ⟨by rfl, ?_⟩) hHeld ?_
      rotate_left
      · intro w hSw; (try dsimp only at hSw); go_simp
        all_goals (with_reducible rfl)
      (try simp only [Act.put, List.getElem_toArray, List.getElem_cons_succ, List.getElem_cons_zero, List.setIfInBounds_toArray, List.set_cons_zero, List.set_cons_succ])
      refine wpAnyH_take (i := 3) (v := ?_) rfl (by kernel_rfl) (by kernel_rfl) (by kernel_rfl) (fun _ _ _ h => h) (Or.inl ⟨by rfl, ?_⟩) hHeld ?_
      rotate_left
      · intro w hSw; (try dsimp only at hSw); go_simp
        all_goals (with_reducible rfl)
      (try simp only [Act.put, List.getElem_toArray, List.getElem_cons_succ, List.getElem_cons_zero, List.setIfInBounds_toArray, List.set_cons_zero, List.set_cons_succ])
      refine wpAnyH_take (i := 4) (v := ?_) rfl (by kernel_rfl) (by kernel_rfl) (by kernel_rfl) (fun _ _ _ h => h) (Or.inl ⟨by rfl, ?_⟩) hHeld ?_
      rotate_left
      · intro w hSw; (try dsimp only at hSw); go_simp
        all_goals (with_reducible rfl)
      (try simp only [Act.put, List.getElem_toArray, List.getElem_cons_succ, List.getElem_cons_zero, List.setIfInBounds_toArray, List.set_cons_zero, List.set_cons_succ])
      refine wpAnyH_ready (rs := [2]) (by kernel_rfl) (by simp) ?_
      refine AllReadyH.cons rfl (fun K hK => ?_) AllReadyH.nil
      go_simp
      go_wp2_with (go_at_call 26; refine (hpw _).mono ?_; rintro _ wp1 ⟨rfl, rfl⟩)
      refine hK.out _ _ (⟨b1, b4⟩) (fun hHeld => ?_)
      clear hK K
      (try simp only [Act.put, List.getElem_toArray, List.getElem_cons_succ, List.getElem_cons_zero, List.setIfInBounds_toArray, List.set_cons_zero, List.set_cons_succ])
      refine wpAnyH_ready (rs := [5]) (by kernel_rfl) (by simp) ?_
      refine AllReadyH.cons rfl (fun K hK => ?_) AllReadyH.nil
      go_simp
      go_wp2_with (go_at_call 26; refine (hpd _).mono ?_; rintro _ wp2 ⟨rfl, rfl⟩)
      refine hK.out _ _ (⟨b1, b4⟩) (fun hHeld => ?_)
      clear hK K
      (try simp only [Act.put, List.getElem_toArray, List.getElem_cons_succ, List.getElem_cons_zero, List.setIfInBounds_toArray, List.set_cons_zero, List.set_cons_succ])
      refine wpAnyH_take (i := 6) (v := ?_) rfl (by kernel_rfl) (by kernel_rfl) (by kernel_rfl) (fun _ _ _ h => h) (Or.inl ⟨by rfl, ?_⟩) hHeld ?_
      rotate_left
      · intro w hSw; (try dsimp only at hSw); go_simp
        all_goals (with_reducible rfl)
      (try simp only [Act.put, List.getElem_toArray, List.getElem_cons_succ, List.getElem_cons_zero, List.setIfInBounds_toArray, List.set_cons_zero, List.set_cons_succ])
      refine wpAnyH_take (i := 7) (v := ?_) rfl (by kernel_rfl) (by kernel_rfl) (by kernel_rfl) (fun _ _ _ h => h) (Or.inl ⟨by rfl, ?_⟩) hHeld ?_
      rotate_left
      · intro w hSw; (try dsimp only at hSw); go_simp
        all_goals (with_reducible rfl)
      (try simp only [Act.put, List.getElem_toArray, List.getElem_cons_succ, List.getElem_cons_zero, List.setIfInBounds_toArray, List.set_cons_zero, List.set_cons_succ])
      refine wpAnyH_done (by kernel_rfl) ?_ _
      clear hHeld
      go_upto_block 2 with fail
      obtain ⟨wd, hwd⟩ : ∃ wd, wb.drew = wd := ⟨_, rfl⟩
      have hbd : Below wb.heap.size wb wd := by rw [← hwd]; exact below_drew1 wb
      rw [hwd]
      have b0d := (hbd.cell (p := ⟨wr.heap.size, 0, none⟩) (cell_lt b0)).trans b0
      clear hwd b0 b1 b4
      obtain ⟨hB, hzb⟩ := HB.out
      have hBd := (hbd.block _ (heap_lt hB)).trans hB
      have hzd := hbd.size
      have hbrd : Below wr.heap.size wr wd := hbb.trans (hbd.mono hbb.size)
      have hPd := hP.below hbrd
      have hb0d : Below w.heap.size w wd := hb.trans (hbrd.mono hb.size)
      have HD := Lib.hid (And.intro hB (And.intro hzb (And.intro hPd (And.intro hb0d (And.intro hbrd hBd)))))
      have hzd2 : wr.heap.size < wd.heap.size := by omega
      obtain ⟨bx, ebx⟩ : ∃ bx, wr.heap.size = bx := ⟨_, rfl⟩
      have hbx10 : w10.heap.size ≤ bx := by omega
      rw [ebx] at HD b0d hzd2 ⊢
      clear hB hzb hbd hBd hPd hb0d hP hbb HB hpw hpd hzd hbrd ebx hsz
      go_cut [20, 21] from 108 to 177 (fun s20 s21 wx => Chg (fun b => b = bt ∨ b = bt + 1) wd wx ∧ PlaysAt w2.heap.size bt (bt + 1) (L.length + k) wx)
      case first =>
        by_cases k10 : x.kind = 10
        · have g1 : (x.kind == 10) = true := by simp [k10]
          obtain ⟨l1, l2, os, F, G, ⟨hl1, hl2, hl3⟩, ht1, ht2, hT, hok⟩ := HD.out.2.2.1
          obtain ⟨p, hp⟩ : ∃ p, l1[who]? = some p := ⟨l1[who]'(by omega), by simp⟩
          obtain ⟨q, hq⟩ : ∃ p, l2[who]? = some p := ⟨l2[who]'(by omega), by simp⟩
          obtain ⟨o, ho⟩ : ∃ p, os[who]? = some p := ⟨os[who]'(by omega), by simp⟩
          obtain ⟨p2, hp2⟩ : ∃ p, l1[dst]? = some p := ⟨l1[dst]'(by omega), by simp⟩
          obtain ⟨qq2, hq2⟩ : ∃ p, l2[dst]? = some p := ⟨l2[dst]'(by omega), by simp⟩
          have cp := cell_of_heap ht1 (ptrs_at hp)
          have cq := cell_of_heap ht2 (ptrs_at hq)
          have hTd := hT.kept (O := fun _ => False) ((Chg.refl (fun _ => False) wd).drew) (fun _ _ _ h => h) (fun _ _ _ h => h)
          have hPr := hTd.pair who p q o hp hq ho
          have hcp := hPr.copy1 (hok who o ho).ok (by omega)
          have hcq := fun (W : World) (hW : Below wd.drew.heap.size wd.drew W) => (hPr.below hW).copy2
          have htl1 := heap_lt ht1
          have htl2 := heap_lt ht2
          have i0 : (0 : Int) ≤ (who : Int) := by omega
          have i1 : (who : Int) < 3 := by omega
          have i2 : (0 : Int) ≤ (dst : Int) := by omega
          have i3 : (dst : Int) < 3 := by omega
          have HA1 := Lib.hid (And.intro hp (And.intro hq (And.intro ho (And.intro hp2 (And.intro hq2 (And.intro hT (And.intro hTd (And.intro ht1 (And.intro ht2 (And.intro hok (And.intro hl1 (And.intro hl2 hl3))))))))))))
          clear hp hq ho hp2 hq2 hT hTd ht1 ht2 hok k10 hPr hl1 hl2 hl3
          go_upto_region 18 with fail
          refine wp_region_held_drew (S := fun _ => True) (by kernel_rfl) (trivial) (fun hHeld => ?_)
          refine wpAnyH_take (i := 0) (v := ?_) rfl (by kernel_rfl) (by kernel_rfl) (by kernel_rfl) (fun _ _ _ h => h) (Or.inl ⟨by rfl, ?_⟩) hHeld ?_
          rotate_left
          · intro w hSw; (try dsimp only at hSw); go_simp
            all_goals (with_reducible rfl)
          (try simp only [Act.put, List.getElem_toArray, List.getElem_cons_succ, List.getElem_cons_zero, List.setIfInBounds_toArray, List.set_cons_zero, List.set_cons_succ])
          refine wpAnyH_take (i := 1) (v := ?_) rfl (by kernel_rfl) (by kernel_rfl) (by kernel_rfl) (fun _ _ _ h => h) (Or.inl ⟨by rfl, ?_⟩) hHeld ?_
          rotate_left
          · intro w hSw; (try dsimp only at hSw); go_simp
            all_goals (with_reducible rfl)
          (try simp only [Act.put, List.getElem_toArray, List.getElem_cons_succ, List.getElem_cons_zero, List.setIfInBounds_toArray, List.set_cons_zero, List.set_cons_succ])
          refine wpAnyH_take (i := 2) (v := ?_) rfl (by kernel_rfl) (by kernel_rfl) (by kernel_rfl) (fun _ _ _ h => h) (Or.inl ⟨by rfl, ?_⟩) hHeld ?_
          rotate_left
          · intro w hSw; (try dsimp only at hSw); go_simp
            all_goals (with_reducible rfl)
          (try simp only [Act.put, List.getElem_toArray, List.getElem_cons_succ, List.getElem_cons_zero, List.setIfInBounds_toArray, List.set_cons_zero, List.set_cons_succ])
          refine wpAnyH_take (i := 3) (v := ?_) rfl (by kernel_rfl) (by kernel_rfl) (by kernel_rfl) (fun _ _ _ h => h) (Or.inl ⟨by rfl, ?_⟩) hHeld ?_
          rotate_left
          · intro w hSw; (try dsimp only at hSw); go_simp
            all_goals (with_reducible rfl)
          (try simp only [Act.put, List.getElem_toArray, List.getElem_cons_succ, List.getElem_cons_zero, List.setIfInBounds_toArray, List.set_cons_zero, List.set_cons_succ])
          refine wpAnyH_take (i := 6) (v := ?_) rfl (by kernel_rfl) (by kernel_rfl) (by kernel_rfl) (fun _ _ _ h => h) (Or.inl ⟨by rfl, ?_⟩) hHeld ?_
          rotate_left
          · intro w hSw; (try dsimp only at hSw); go_simp
            all_goals (with_reducible rfl)
          (try simp only [Act.put, List.getElem_toArray, List.getElem_cons_succ, List.getElem_cons_zero, List.setIfInBounds_toArray, List.set_cons_zero, List.set_cons_succ])
          refine wpAnyH_take (i := 7) (v := ?_) rfl (by kernel_rfl) (by kernel_rfl) (by kernel_rfl) (fun _ _ _ h => h) (Or.inl ⟨by rfl, ?_⟩) hHeld ?_
          rotate_left
          · intro w hSw; (try dsimp only at hSw); go_simp
            all_goals (with_reducible rfl)
          (try simp only [Act.put, List.getElem_toArray, List.getElem_cons_succ, List.getElem_cons_zero, List.setIfInBounds_toArray, List.set_cons_zero, List.set_cons_succ])
          refine wpAnyH_ready (rs := [4, 8]) (by kernel_rfl) (by simp) ?_
          refine AllReadyH.cons rfl (fun K hK => ?_) (AllReadyH.cons rfl (fun K hK => ?_) AllReadyH.nil)
          · go_simp
            refine hK.out _ _ (trivial) (fun hHeld => ?_)
            clear hK K
            (try simp only [Act.put, List.getElem_toArray, List.getElem_cons_succ, List.getElem_cons_zero, List.setIfInBounds_toArray, List.set_cons_zero, List.set_cons_succ])
            refine wpAnyH_ready (rs := [5, 8]) (by kernel_rfl) (by simp) ?_
            refine AllReadyH.cons rfl (fun K hK => ?_) (AllReadyH.cons rfl (fun K hK => ?_) AllReadyH.nil)
            · go_simp
              go_wp2_with (go_at_call 27; refine hcp.mono ?_; rintro _ w5 ⟨qA, rfl, hhA, hbA⟩)
              have cq5 := (hbA.cell (p := ⟨bt + 1, who, none⟩) htl2).trans cq
              
              refine hK.out _ _ (trivial) (fun hHeld => ?_)
              clear hK K
              (try simp only [Act.put, List.getElem_toArray, List.getElem_cons_succ, List.getElem_cons_zero, List.setIfInBounds_toArray, List.set_cons_zero, List.set_cons_succ])
              refine wpAnyH_take (i := 10) (v := ?_) rfl (by kernel_rfl) (by kernel_rfl) (by kernel_rfl) (fun _ _ _ h => h) (Or.inl ⟨by rfl, ?_⟩) hHeld ?_
              rotate_left
              · intro w hSw; (try dsimp only at hSw); go_simp
                all_goals (with_reducible rfl)
              (try simp only [Act.put, List.getElem_toArray, List.getElem_cons_succ, List.getElem_cons_zero, List.setIfInBounds_toArray, List.set_cons_zero, List.set_cons_succ])
              refine wpAnyH_ready (rs := [8]) (by kernel_rfl) (by simp) ?_
              refine AllReadyH.cons rfl (fun K hK => ?_) AllReadyH.nil
              go_simp
              refine hK.out _ _ (trivial) (fun hHeld => ?_)
              clear hK K
              (try simp only [Act.put, List.getElem_toArray, List.getElem_cons_succ, List.getElem_cons_zero, List.setIfInBounds_toArray, List.set_cons_zero, List.set_cons_succ])
              refine wpAnyH_ready (rs := [9]) (by kernel_rfl) (by simp) ?_
              refine AllReadyH.cons rfl (fun K hK => ?_) AllReadyH.nil
              go_simp
              go_wp2_with (go_at_call 28; refine (hcq w5 hbA).mono ?_; rintro _ w6 ⟨qB, rfl, hhB, hbB⟩)
              have hbAB : Below wd.heap.size wd w6 := (⟨hbA.os, hbA.tape, hbA.output, hbA.size, hbA.block⟩ : Below wd.heap.size wd w5).trans (hbB.mono hbA.size)
              have n1 := (hbAB.block _ htl1).trans HA1.out.2.2.2.2.2.2.2.1
              have n2 := (hbAB.block _ htl2).trans HA1.out.2.2.2.2.2.2.2.2.1
              have x1 := cell_of_heap n1 (ptrs_at HA1.out.2.2.2.1)
              have y1 := frozen_of_heap (i := dst) n1
              
              refine hK.out _ _ (trivial) (fun hHeld => ?_)
              clear hK K
              (try simp only [Act.put, List.getElem_toArray, List.getElem_cons_succ, List.getElem_cons_zero, List.setIfInBounds_toArray, List.set_cons_zero, List.set_cons_succ])
              refine wpAnyH_ready (rs := [11]) (by kernel_rfl) (by simp) ?_
              refine AllReadyH.cons rfl (fun K hK => ?_) AllReadyH.nil
              go_simp
              obtain ⟨w7, hw7⟩ : ∃ w7, w6.setCell ⟨bt, dst, none⟩ (.pointer qA) = w7 := ⟨_, rfl⟩
              rw [hw7]
              have hc7 : Chg (fun b => b = bt ∨ b = bt + 1) w6 w7 := by rw [← hw7]; exact Chg.set _ (.inl rfl)
              have m1 := heap_set_cells (i := dst) (.pointer qA) n1
              rw [hw7, ptrs_set] at m1
              have m2 : w7.heap[bt + 1]? = some (.cells (ptrs l2) 64 (0, 0)) := (by rw [← hw7]; exact (Below.heap_setCell _ _ _ _ (by show bt + 1 ≠ bt; omega)).trans n2)
              have x2 := cell_of_heap m2 (ptrs_at HA1.out.2.2.2.2.1)
              have y2 := frozen_of_heap (i := dst) m2
              
              refine hK.out _ _ (trivial) (fun hHeld => ?_)
              clear hK K
              (try simp only [Act.put, List.getElem_toArray, List.getElem_cons_succ, List.getElem_cons_zero, List.setIfInBounds_toArray, List.set_cons_zero, List.set_cons_succ])
              refine wpAnyH_take (i := 12) (v := ?_) rfl (by kernel_rfl) (by kernel_rfl) (by kernel_rfl) (fun _ _ _ h => h) (Or.inl ⟨by rfl, ?_⟩) hHeld ?_
              rotate_left
              · intro w hSw; (try dsimp only at hSw); go_simp
                all_goals (with_reducible rfl)
              (try simp only [Act.put, List.getElem_toArray, List.getElem_cons_succ, List.getElem_cons_zero, List.setIfInBounds_toArray, List.set_cons_zero, List.set_cons_succ])
              refine wpAnyH_ready (rs := [13]) (by kernel_rfl) (by simp) ?_
              refine AllReadyH.cons rfl (fun K hK => ?_) AllReadyH.nil
              go_simp
              obtain ⟨w8, hw8⟩ : ∃ w8, w7.setCell ⟨bt + 1, dst, none⟩ (.pointer qB) = w8 := ⟨_, rfl⟩
              rw [hw8]
              have hc8 : Chg (fun b => b = bt ∨ b = bt + 1) w7 w8 := by rw [← hw8]; exact Chg.set _ (.inr rfl)
              have o2 := heap_set_cells (i := dst) (.pointer qB) m2
              rw [hw8, ptrs_set] at o2
              have o1 : w8.heap[bt]? = some (.cells (ptrs (l1.set dst qA)) 63 (0, 0)) := (by rw [← hw8]; exact (Below.heap_setCell _ _ _ _ (by show bt ≠ bt + 1; omega)).trans m1)
              
              refine hK.out _ _ (trivial) (fun hHeld => ?_)
              clear hK K
              (try simp only [Act.put, List.getElem_toArray, List.getElem_cons_succ, List.getElem_cons_zero, List.setIfInBounds_toArray, List.set_cons_zero, List.set_cons_succ])
              refine wpAnyH_done (by kernel_rfl) ?_ _
              clear hHeld
              have hcT : Chg (fun b => b = bt ∨ b = bt + 1) w6 w8 := hc7.trans hc8 (fun _ h _ => h)
              have hPN : PlaysAt w2.heap.size bt (bt + 1) (L.length + k) w8 := PlaysAt.renewed ⟨HA1.out.2.2.2.2.2.2.2.2.2.2.1, HA1.out.2.2.2.2.2.2.2.2.2.2.2.1, HA1.out.2.2.2.2.2.2.2.2.2.2.2.2⟩ HA1.out.2.2.2.2.2.2.1 HA1.out.2.2.2.2.2.2.2.2.2.1 (who := who) (dst := dst) (HA1.out.2.2.2.2.2.2.2.2.2.1 who o HA1.out.2.2.1) (Chg.of_below (hbA.trans (hbB.mono hbA.size))) hhA (Chg.of_below hbB) hhB hbA.size (Nat.le_refl _) htl1 htl2 (by show w2.heap.size ≤ wd.heap.size; omega) hcT o1 o2
              have hcD : Chg (fun b => b = bt ∨ b = bt + 1) wd w8 := (Chg.of_below hbAB).trans hcT (fun _ h _ => h)
              clear hcp hcq
              go_wp2
              go_meet
              case rel => exact ⟨hcD, hPN⟩
            · go_simp
              refine hK.out _ _ (trivial) (fun hHeld => ?_)
              clear hK K
              (try simp only [Act.put, List.getElem_toArray, List.getElem_cons_succ, List.getElem_cons_zero, List.setIfInBounds_toArray, List.set_cons_zero, List.set_cons_succ])
              refine wpAnyH_ready (rs := [5]) (by kernel_rfl) (by simp) ?_
              refine AllReadyH.cons rfl (fun K hK => ?_) AllReadyH.nil
              go_simp
              go_wp2_with (go_at_call 27; refine hcp.mono ?_; rintro _ w5 ⟨qA, rfl, hhA, hbA⟩)
              have cq5 := (hbA.cell (p := ⟨bt + 1, who, none⟩) htl2).trans cq
              
              refine hK.out _ _ (trivial) (fun hHeld => ?_)
              clear hK K
              (try simp only [Act.put, List.getElem_toArray, List.getElem_cons_succ, List.getElem_cons_zero, List.setIfInBounds_toArray, List.set_cons_zero, List.set_cons_succ])
              refine wpAnyH_take (i := 10) (v := ?_) rfl (by kernel_rfl) (by kernel_rfl) (by kernel_rfl) (fun _ _ _ h => h) (Or.inl ⟨by rfl, ?_⟩) hHeld ?_
              rotate_left
              · intro w hSw; (try dsimp only at hSw); go_simp
                all_goals (with_reducible rfl)
              (try simp only [Act.put, List.getElem_toArray, List.getElem_cons_succ, List.getElem_cons_zero, List.setIfInBounds_toArray, List.set_cons_zero, List.set_cons_succ])
              refine wpAnyH_ready (rs := [9]) (by kernel_rfl) (by simp) ?_
              refine AllReadyH.cons rfl (fun K hK => ?_) AllReadyH.nil
              go_simp
              go_wp2_with (go_at_call 28; refine (hcq w5 hbA).mono ?_; rintro _ w6 ⟨qB, rfl, hhB, hbB⟩)
              have hbAB : Below wd.heap.size wd w6 := (⟨hbA.os, hbA.tape, hbA.output, hbA.size, hbA.block⟩ : Below wd.heap.size wd w5).trans (hbB.mono hbA.size)
              have n1 := (hbAB.block _ htl1).trans HA1.out.2.2.2.2.2.2.2.1
              have n2 := (hbAB.block _ htl2).trans HA1.out.2.2.2.2.2.2.2.2.1
              have x1 := cell_of_heap n1 (ptrs_at HA1.out.2.2.2.1)
              have y1 := frozen_of_heap (i := dst) n1
              
              refine hK.out _ _ (trivial) (fun hHeld => ?_)
              clear hK K
              (try simp only [Act.put, List.getElem_toArray, List.getElem_cons_succ, List.getElem_cons_zero, List.setIfInBounds_toArray, List.set_cons_zero, List.set_cons_succ])
              refine wpAnyH_ready (rs := [11]) (by kernel_rfl) (by simp) ?_
              refine AllReadyH.cons rfl (fun K hK => ?_) AllReadyH.nil
              go_simp
              obtain ⟨w7, hw7⟩ : ∃ w7, w6.setCell ⟨bt, dst, none⟩ (.pointer qA) = w7 := ⟨_, rfl⟩
              rw [hw7]
              have hc7 : Chg (fun b => b = bt ∨ b = bt + 1) w6 w7 := by rw [← hw7]; exact Chg.set _ (.inl rfl)
              have m1 := heap_set_cells (i := dst) (.pointer qA) n1
              rw [hw7, ptrs_set] at m1
              have m2 : w7.heap[bt + 1]? = some (.cells (ptrs l2) 64 (0, 0)) := (by rw [← hw7]; exact (Below.heap_setCell _ _ _ _ (by show bt + 1 ≠ bt; omega)).trans n2)
              have x2 := cell_of_heap m2 (ptrs_at HA1.out.2.2.2.2.1)
              have y2 := frozen_of_heap (i := dst) m2
              
              refine hK.out _ _ (trivial) (fun hHeld => ?_)
              clear hK K
              (try simp only [Act.put, List.getElem_toArray, List.getElem_cons_succ, List.getElem_cons_zero, List.setIfInBounds_toArray, List.set_cons_zero, List.set_cons_succ])
              refine wpAnyH_take (i := 12) (v := ?_) rfl (by kernel_rfl) (by kernel_rfl) (by kernel_rfl) (fun _ _ _ h => h) (Or.inl ⟨by rfl, ?_⟩) hHeld ?_
              rotate_left
              · intro w hSw; (try dsimp only at hSw); go_simp
                all_goals (with_reducible rfl)
              (try simp only [Act.put, List.getElem_toArray, List.getElem_cons_succ, List.getElem_cons_zero, List.setIfInBounds_toArray, List.set_cons_zero, List.set_cons_succ])
              refine wpAnyH_ready (rs := [13]) (by kernel_rfl) (by simp) ?_
              refine AllReadyH.cons rfl (fun K hK => ?_) AllReadyH.nil
              go_simp
              obtain ⟨w8, hw8⟩ : ∃ w8, w7.setCell ⟨bt + 1, dst, none⟩ (.pointer qB) = w8 := ⟨_, rfl⟩
              rw [hw8]
              have hc8 : Chg (fun b => b = bt ∨ b = bt + 1) w7 w8 := by rw [← hw8]; exact Chg.set _ (.inr rfl)
              have o2 := heap_set_cells (i := dst) (.pointer qB) m2
              rw [hw8, ptrs_set] at o2
              have o1 : w8.heap[bt]? = some (.cells (ptrs (l1.set dst qA)) 63 (0, 0)) := (by rw [← hw8]; exact (Below.heap_setCell _ _ _ _ (by show bt ≠ bt + 1; omega)).trans m1)
              
              refine hK.out _ _ (trivial) (fun hHeld => ?_)
              clear hK K
              (try simp only [Act.put, List.getElem_toArray, List.getElem_cons_succ, List.getElem_cons_zero, List.setIfInBounds_toArray, List.set_cons_zero, List.set_cons_succ])
              refine wpAnyH_done (by kernel_rfl) ?_ _
              clear hHeld
              have hcT : Chg (fun b => b = bt ∨ b = bt + 1) w6 w8 := hc7.trans hc8 (fun _ h _ => h)
              have hPN : PlaysAt w2.heap.size bt (bt + 1) (L.length + k) w8 := PlaysAt.renewed ⟨HA1.out.2.2.2.2.2.2.2.2.2.2.1, HA1.out.2.2.2.2.2.2.2.2.2.2.2.1, HA1.out.2.2.2.2.2.2.2.2.2.2.2.2⟩ HA1.out.2.2.2.2.2.2.1 HA1.out.2.2.2.2.2.2.2.2.2.1 (who := who) (dst := dst) (HA1.out.2.2.2.2.2.2.2.2.2.1 who o HA1.out.2.2.1) (Chg.of_below (hbA.trans (hbB.mono hbA.size))) hhA (Chg.of_below hbB) hhB hbA.size (Nat.le_refl _) htl1 htl2 (by show w2.heap.size ≤ wd.heap.size; omega) hcT o1 o2
              have hcD : Chg (fun b => b = bt ∨ b = bt + 1) wd w8 := (Chg.of_below hbAB).trans hcT (fun _ h _ => h)
              clear hcp hcq
              go_wp2
              go_meet
              case rel => exact ⟨hcD, hPN⟩
          · go_simp
            refine hK.out _ _ (trivial) (fun hHeld => ?_)
            clear hK K
            (try simp only [Act.put, List.getElem_toArray, List.getElem_cons_succ, List.getElem_cons_zero, List.setIfInBounds_toArray, List.set_cons_zero, List.set_cons_succ])
            refine wpAnyH_ready (rs := [4]) (by kernel_rfl) (by simp) ?_
            refine AllReadyH.cons rfl (fun K hK => ?_) AllReadyH.nil
            go_simp
            refine hK.out _ _ (trivial) (fun hHeld => ?_)
            clear hK K
            (try simp only [Act.put, List.getElem_toArray, List.getElem_cons_succ, List.getElem_cons_zero, List.setIfInBounds_toArray, List.set_cons_zero, List.set_cons_succ])
            refine wpAnyH_ready (rs := [5]) (by kernel_rfl) (by simp) ?_
            refine AllReadyH.cons rfl (fun K hK => ?_) AllReadyH.nil
            go_simp
            go_wp2_with (go_at_call 27; refine hcp.mono ?_; rintro _ w5 ⟨qA, rfl, hhA, hbA⟩)
            have cq5 := (hbA.cell (p := ⟨bt + 1, who, none⟩) htl2).trans cq
            
            refine hK.out _ _ (trivial) (fun hHeld => ?_)
            clear hK K
            (try simp only [Act.put, List.getElem_toArray, List.getElem_cons_succ, List.getElem_cons_zero, List.setIfInBounds_toArray, List.set_cons_zero, List.set_cons_succ])
            refine wpAnyH_take (i := 10) (v := ?_) rfl (by kernel_rfl) (by kernel_rfl) (by kernel_rfl) (fun _ _ _ h => h) (Or.inl ⟨by rfl, ?_⟩) hHeld ?_
            rotate_left
            · intro w hSw; (try dsimp only at hSw); go_simp
              all_goals (with_reducible rfl)
            (try simp only [Act.put, List.getElem_toArray, List.getElem_cons_succ, List.getElem_cons_zero, List.setIfInBounds_toArray, List.set_cons_zero, List.set_cons_succ])
            refine wpAnyH_ready (rs := [9]) (by kernel_rfl) (by simp) ?_
            refine AllReadyH.cons rfl (fun K hK => ?_) AllReadyH.nil
            go_simp
            go_wp2_with (go_at_call 28; refine (hcq w5 hbA).mono ?_; rintro _ w6 ⟨qB, rfl, hhB, hbB⟩)
            have hbAB : Below wd.heap.size wd w6 := (⟨hbA.os, hbA.tape, hbA.output, hbA.size, hbA.block⟩ : Below wd.heap.size wd w5).trans (hbB.mono hbA.size)
            have n1 := (hbAB.block _ htl1).trans HA1.out.2.2.2.2.2.2.2.1
            have n2 := (hbAB.block _ htl2).trans HA1.out.2.2.2.2.2.2.2.2.1
            have x1 := cell_of_heap n1 (ptrs_at HA1.out.2.2.2.1)
            have y1 := frozen_of_heap (i := dst) n1
            
            refine hK.out _ _ (trivial) (fun hHeld => ?_)
            clear hK K
            (try simp only [Act.put, List.getElem_toArray, List.getElem_cons_succ, List.getElem_cons_zero, List.setIfInBounds_toArray, List.set_cons_zero, List.set_cons_succ])
            refine wpAnyH_ready (rs := [11]) (by kernel_rfl) (by simp) ?_
            refine AllReadyH.cons rfl (fun K hK => ?_) AllReadyH.nil
            go_simp
            obtain ⟨w7, hw7⟩ : ∃ w7, w6.setCell ⟨bt, dst, none⟩ (.pointer qA) = w7 := ⟨_, rfl⟩
            rw [hw7]
            have hc7 : Chg (fun b => b = bt ∨ b = bt + 1) w6 w7 := by rw [← hw7]; exact Chg.set _ (.inl rfl)
            have m1 := heap_set_cells (i := dst) (.pointer qA) n1
            rw [hw7, ptrs_set] at m1
            have m2 : w7.heap[bt + 1]? = some (.cells (ptrs l2) 64 (0, 0)) := (by rw [← hw7]; exact (Below.heap_setCell _ _ _ _ (by show bt + 1 ≠ bt; omega)).trans n2)
            have x2 := cell_of_heap m2 (ptrs_at HA1.out.2.2.2.2.1)
            have y2 := frozen_of_heap (i := dst) m2
            
            refine hK.out _ _ (trivial) (fun hHeld => ?_)
            clear hK K
            (try simp only [Act.put, List.getElem_toArray, List.getElem_cons_succ, List.getElem_cons_zero, List.setIfInBounds_toArray, List.set_cons_zero, List.set_cons_succ])
            refine wpAnyH_take (i := 12) (v := ?_) rfl (by kernel_rfl) (by kernel_rfl) (by kernel_rfl) (fun _ _ _ h => h) (Or.inl ⟨by rfl, ?_⟩) hHeld ?_
            rotate_left
            · intro w hSw; (try dsimp only at hSw); go_simp
              all_goals (with_reducible rfl)
            (try simp only [Act.put, List.getElem_toArray, List.getElem_cons_succ, List.getElem_cons_zero, List.setIfInBounds_toArray, List.set_cons_zero, List.set_cons_succ])
            refine wpAnyH_ready (rs := [13]) (by kernel_rfl) (by simp) ?_
            refine AllReadyH.cons rfl (fun K hK => ?_) AllReadyH.nil
            go_simp
            obtain ⟨w8, hw8⟩ : ∃ w8, w7.setCell ⟨bt + 1, dst, none⟩ (.pointer qB) = w8 := ⟨_, rfl⟩
            rw [hw8]
            have hc8 : Chg (fun b => b = bt ∨ b = bt + 1) w7 w8 := by rw [← hw8]; exact Chg.set _ (.inr rfl)
            have o2 := heap_set_cells (i := dst) (.pointer qB) m2
            rw [hw8, ptrs_set] at o2
            have o1 : w8.heap[bt]? = some (.cells (ptrs (l1.set dst qA)) 63 (0, 0)) := (by rw [← hw8]; exact (Below.heap_setCell _ _ _ _ (by show bt ≠ bt + 1; omega)).trans m1)
            
            refine hK.out _ _ (trivial) (fun hHeld => ?_)
            clear hK K
            (try simp only [Act.put, List.getElem_toArray, List.getElem_cons_succ, List.getElem_cons_zero, List.setIfInBounds_toArray, List.set_cons_zero, List.set_cons_succ])
            refine wpAnyH_done (by kernel_rfl) ?_ _
            clear hHeld
            have hcT : Chg (fun b => b = bt ∨ b = bt + 1) w6 w8 := hc7.trans hc8 (fun _ h _ => h)
            have hPN : PlaysAt w2.heap.size bt (bt + 1) (L.length + k) w8 := PlaysAt.renewed ⟨HA1.out.2.2.2.2.2.2.2.2.2.2.1, HA1.out.2.2.2.2.2.2.2.2.2.2.2.1, HA1.out.2.2.2.2.2.2.2.2.2.2.2.2⟩ HA1.out.2.2.2.2.2.2.1 HA1.out.2.2.2.2.2.2.2.2.2.1 (who := who) (dst := dst) (HA1.out.2.2.2.2.2.2.2.2.2.1 who o HA1.out.2.2.1) (Chg.of_below (hbA.trans (hbB.mono hbA.size))) hhA (Chg.of_below hbB) hhB hbA.size (Nat.le_refl _) htl1 htl2 (by show w2.heap.size ≤ wd.heap.size; omega) hcT o1 o2
            have hcD : Chg (fun b => b = bt ∨ b = bt + 1) wd w8 := (Chg.of_below hbAB).trans hcT (fun _ h _ => h)
            clear hcp hcq
            go_wp2
            go_meet
            case rel => exact ⟨hcD, hPN⟩
        · have g1 : (x.kind == 10) = false := by simp [k10]
          by_cases k11 : x.kind = 11
          · have g2 : (x.kind == 11) = true := by simp [k11]
            obtain ⟨l1, l2, os, F, G, ⟨hl1, hl2, hl3⟩, ht1, ht2, hT, hok⟩ := HD.out.2.2.1
            obtain ⟨p, hp⟩ : ∃ p, l1[who]? = some p := ⟨l1[who]'(by omega), by simp⟩
            obtain ⟨q, hq⟩ : ∃ p, l2[who]? = some p := ⟨l2[who]'(by omega), by simp⟩
            obtain ⟨o, ho⟩ : ∃ p, os[who]? = some p := ⟨os[who]'(by omega), by simp⟩
            obtain ⟨p2, hp2⟩ : ∃ p, l1[dst]? = some p := ⟨l1[dst]'(by omega), by simp⟩
            obtain ⟨qq2, hq2⟩ : ∃ p, l2[dst]? = some p := ⟨l2[dst]'(by omega), by simp⟩
            have htl1 := heap_lt ht1
            have htl2 := heap_lt ht2
            have hBd := HD.out.2.2.2.2.2
            have b8 := cell_of_heap hBd (i := 8) (v := .slice ka x.keep.length kc) rfl
            have hkd := (HK.out.1.1).below HD.out.2.2.2.1
            have hkn := HK.out.1.2
            obtain ⟨i0', hi, hz0, hz1', hz2⟩ := info_parts Tryz.info4
            have i0 : (0 : Int) ≤ (who : Int) := by omega
            have i1 : (who : Int) < 3 := by omega
            have i2 : (0 : Int) ≤ (dst : Int) := by omega
            have i3 : (dst : Int) < 3 := by omega
            have HA1 := Lib.hid (And.intro hp (And.intro hq (And.intro ho (And.intro hp2 (And.intro hq2 (And.intro hT (And.intro ht1 (And.intro ht2 (And.intro hok (And.intro hl1 (And.intro hl2 hl3)))))))))))
            have HBD := Lib.hid hBd
            clear hp hq ho hp2 hq2 hT ht1 ht2 hok k10 k11 hl1 hl2 hl3 hBd
            go_upto_region 21 with (first
              | (at_builtin; refine wpList_append_any _ rfl (.const (.slice none 0 0)) (.tmp 128) 37 rfl wd.heap.size 4 i0' (.bool false) 1 Tryz.underlying37 hi hz0 hz1' hz2 rfl (.slice none 0 0) 0 [] rfl (World.ownsRow_nil _ _ _ _) ka x.keep.length kc (x.keep.map Value.bool) rfl (by simp) hkn hkd (by intro u hu; obtain ⟨y, _, rfl⟩ := List.mem_map.1 hu; rfl) (by omega) (by omega) (Nat.le_refl _) ?_; intro v1 wv1 hv1 hg1; rw [Nat.zero_add, List.nil_append] at hv1; have hbv1 : Below wd.heap.size wd wv1 := (Below.refl _ _).grown hg1 (Nat.le_refl _) (by intro k hk; cases hk); have hzv1 := hbv1.size)
              | (at_builtin; refine wpList_append_any _ rfl (.tmp 129) (.tmp 130) 37 rfl wd.heap.size 4 i0' (.bool false) 1 Tryz.underlying37 hi hz0 hz1' hz2 rfl _ x.keep.length _ rfl (World.ownsRow.alloc hv1 _) (some ⟨wv1.heap.size, 0, none⟩) 1 1 [.bool true] rfl rfl (fun h => by cases h) (RowAt.of_row (fun j u hu => cell_new wv1 _ _ j u (by simpa using hu))) (by simp [Value.oneCell']) (by omega) (by omega) (by rw [World.size_alloc]; omega) ?_; intro v2 wk hv2 hg2; have hbk : Below wd.heap.size wd wk := (hbv1.alloc hzv1 _).grown hg2 (by rw [World.size_alloc]; omega) (fun k e => (hv1.lt k e).1); obtain ⟨a2, ck, rfl, hck, _, hat2⟩ := ownsRow_cell hv2; obtain ⟨gk, rfl, _⟩ := hat2 x.keep.length (.bool true) (by rw [List.getElem?_append_right (by simp)]; simp)))
            have hkl : gk < wk.heap.size ∧ wd.heap.size ≤ gk := ⟨(hv2.lt gk rfl).2, (hv2.lt gk rfl).1⟩
            have hrk : RowAt wk (some ⟨gk, 0, none⟩) (x.keep.map Value.bool) := by
              obtain ⟨a3, c3, e3, hr3, _⟩ := RowAt.of_owns hv2
              cases e3
              have := hr3.take x.keep.length
              rwa [List.take_left' (by simp)] at this
            have hsl := run_slice_hi (P := Tryz.prog) 37 4 Tryz.underlying37 Tryz.sizeOf4 (some ⟨gk, 0, none⟩) (x.keep.length + 1) ck x.keep.length (by omega)
            have hBk := (hbk.block _ (heap_lt HBD.out)).trans HBD.out
            have bk7 := cell_of_heap hBk (i := 7) (v := .int .i64 x.sn) rfl
            have bk8 := cell_of_heap hBk (i := 8) (v := .slice ka x.keep.length kc) rfl
            have bk9 := cell_of_heap hBk (i := 9) (v := .int .i64 x.st) rfl
            have htk1 := (hbk.block _ htl1).trans HA1.out.2.2.2.2.2.2.1
            have htk2 := (hbk.block _ htl2).trans HA1.out.2.2.2.2.2.2.2.1
            have cp := cell_of_heap htk1 (ptrs_at HA1.out.1)
            have hTk := (HA1.out.2.2.2.2.2.1.below hbk).kept (O := fun _ => False) ((Chg.refl (fun _ => False) wk).drew) (fun _ _ _ h => h) (fun _ _ _ h => h)
            have hPr := hTk.pair who p q o HA1.out.1 HA1.out.2.1 HA1.out.2.2.1
            have hOK := (HA1.out.2.2.2.2.2.2.2.2.1 who o HA1.out.2.2.1).ok
            have hks := HX.out.2.2
            have hcc := hPr.stop1 (names := x.sn) (torn := x.st) hst64 (kc := ck) (show RowAt wk.drew (some ⟨gk, 0, none⟩) (x.keep.map Value.bool) from fun h => hrk h) (by omega) hOK (by omega)
            have hce := fun (W : World) (hW : PairO (F who) (G who) W p o q o) (hr : RowAt W ka (x.keep.map Value.bool)) => hW.stop2 (names := x.sn) (torn := x.st) (kc := kc) hr (by omega) hOK (by omega)
            have HK2 := Lib.hid (And.intro hTk (And.intro hPr (And.intro hOK (And.intro htk1 (And.intro htk2 (And.intro hBk (And.intro hv2 hrk)))))))
            have hzk := hbk.size
            clear hTk hPr hOK htk1 htk2 hBk hv2 hrk hg1 hg2 hv1 hat2 hkd hkn hks hbv1 hzv1 hi hz0 hz1' hz2 b8
            refine wp_region_held_drew (S := fun w' => w'.cell? ⟨bx, 7, none⟩ = some (.int .i64 x.sn) ∧ w'.cell? ⟨bx, 8, none⟩ = some (.slice ka x.keep.length kc) ∧ w'.cell? ⟨bx, 9, none⟩ = some (.int .i64 x.st)) (by kernel_rfl) (⟨bk7, bk8, bk9⟩) (fun hHeld => ?_)
            refine wpAnyH_take (i := 0) (v := ?_) rfl (by kernel_rfl) (by kernel_rfl) (by kernel_rfl) (fun _ _ _ h => h) (Or.inl ⟨by rfl, ?_⟩) hHeld ?_
            rotate_left
            · intro w hSw; (try dsimp only at hSw); go_simp
              all_goals (with_reducible rfl)
            (try simp only [Act.put, List.getElem_toArray, List.getElem_cons_succ, List.getElem_cons_zero, List.setIfInBounds_toArray, List.set_cons_zero, List.set_cons_succ])
            refine wpAnyH_take (i := 1) (v := ?_) rfl (by kernel_rfl) (by kernel_rfl) (by kernel_rfl) (fun _ _ _ h => h) (Or.inl ⟨by rfl, ?_⟩) hHeld ?_
            rotate_left
            · intro w hSw; (try dsimp only at hSw); go_simp
              all_goals (with_reducible rfl)
            (try simp only [Act.put, List.getElem_toArray, List.getElem_cons_succ, List.getElem_cons_zero, List.setIfInBounds_toArray, List.set_cons_zero, List.set_cons_succ])
            refine wpAnyH_take (i := 2) (v := ?_) rfl (by kernel_rfl) (by kernel_rfl) (by kernel_rfl) (fun _ _ _ h => h) (Or.inl ⟨by rfl, ?_⟩) hHeld ?_
            rotate_left
            · intro w hSw; (try dsimp only at hSw); go_simp
              all_goals (with_reducible rfl)
            (try simp only [Act.put, List.getElem_toArray, List.getElem_cons_succ, List.getElem_cons_zero, List.setIfInBounds_toArray, List.set_cons_zero, List.set_cons_succ])
            refine wpAnyH_take (i := 4) (v := ?_) rfl (by kernel_rfl) (by kernel_rfl) (by kernel_rfl) (fun _ _ _ h => h) (Or.inl ⟨by rfl, ?_⟩) hHeld ?_
            rotate_left
            · intro w hSw; (try dsimp only at hSw); go_simp
              all_goals (with_reducible rfl)
            (try simp only [Act.put, List.getElem_toArray, List.getElem_cons_succ, List.getElem_cons_zero, List.setIfInBounds_toArray, List.set_cons_zero, List.set_cons_succ])
            refine wpAnyH_take (i := 5) (v := ?_) rfl (by kernel_rfl) (by kernel_rfl) (by kernel_rfl) (fun _ _ _ h => h) (Or.inl ⟨by rfl, ?_⟩) hHeld ?_
            rotate_left
            · intro w hSw; (try dsimp only at hSw); go_simp
              all_goals (with_reducible rfl)
            (try simp only [Act.put, List.getElem_toArray, List.getElem_cons_succ, List.getElem_cons_zero, List.setIfInBounds_toArray, List.set_cons_zero, List.set_cons_succ])
            refine wpAnyH_take (i := 6) (v := ?_) rfl (by kernel_rfl) (by kernel_rfl) (by kernel_rfl) (fun _ _ _ h => h) (Or.inl ⟨by rfl, ?_⟩) hHeld ?_
            rotate_left
            · intro w hSw; (try dsimp only at hSw); go_simp
              all_goals (with_reducible rfl)
            (try simp only [Act.put, List.getElem_toArray, List.getElem_cons_succ, List.getElem_cons_zero, List.setIfInBounds_toArray, List.set_cons_zero, List.set_cons_succ])
            refine wpAnyH_take (i := 7) (v := ?_) rfl (by kernel_rfl) (by kernel_rfl) (by kernel_rfl) (fun _ _ _ h => h) (Or.inl ⟨by rfl, ?_⟩) hHeld ?_
            rotate_left
            · intro w hSw; (try dsimp only at hSw); go_simp
              all_goals (with_reducible rfl)
            (try simp only [Act.put, List.getElem_toArray, List.getElem_cons_succ, List.getElem_cons_zero, List.setIfInBounds_toArray, List.set_cons_zero, List.set_cons_succ])
            refine wpAnyH_take (i := 8) (v := ?_) rfl (by kernel_rfl) (by kernel_rfl) (by kernel_rfl) (fun _ _ _ h => h) (Or.inl ⟨by rfl, ?_⟩) hHeld ?_
            rotate_left
            · intro w hSw; (try dsimp only at hSw); go_simp
              all_goals (with_reducible rfl)
            (try simp only [Act.put, List.getElem_toArray, List.getElem_cons_succ, List.getElem_cons_zero, List.setIfInBounds_toArray, List.set_cons_zero, List.set_cons_succ])
            refine wpAnyH_take (i := 9) (v := ?_) rfl (by kernel_rfl) (by kernel_rfl) (by kernel_rfl) (fun _ _ _ h => h) (Or.inl ⟨by rfl, ?_⟩) hHeld ?_
            rotate_left
            · intro w hSw; (try dsimp only at hSw); go_simp
              all_goals (with_reducible rfl)
            (try simp only [Act.put, List.getElem_toArray, List.getElem_cons_succ, List.getElem_cons_zero, List.setIfInBounds_toArray, List.set_cons_zero, List.set_cons_succ])
            refine wpAnyH_take (i := 10) (v := ?_) rfl (by kernel_rfl) (by kernel_rfl) (by kernel_rfl) (fun _ _ _ h => h) (Or.inl ⟨by rfl, ?_⟩) hHeld ?_
            rotate_left
            · intro w hSw; (try dsimp only at hSw); go_simp
              all_goals (with_reducible rfl)
            (try simp only [Act.put, List.getElem_toArray, List.getElem_cons_succ, List.getElem_cons_zero, List.setIfInBounds_toArray, List.set_cons_zero, List.set_cons_succ])
            refine wpAnyH_take (i := 11) (v := ?_) rfl (by kernel_rfl) (by kernel_rfl) (by kernel_rfl) (fun _ _ _ h => h) (Or.inl ⟨by rfl, ?_⟩) hHeld ?_
            rotate_left
            · intro w hSw; (try dsimp only at hSw); go_simp
              all_goals (with_reducible rfl)
            (try simp only [Act.put, List.getElem_toArray, List.getElem_cons_succ, List.getElem_cons_zero, List.setIfInBounds_toArray, List.set_cons_zero, List.set_cons_succ])
            refine wpAnyH_take (i := 12) (v := ?_) rfl (by kernel_rfl) (by kernel_rfl) (by kernel_rfl) (fun _ _ _ h => h) (Or.inl ⟨by rfl, ?_⟩) hHeld ?_
            rotate_left
            · intro w hSw; (try dsimp only at hSw); go_simp
              all_goals (with_reducible rfl)
            (try simp only [Act.put, List.getElem_toArray, List.getElem_cons_succ, List.getElem_cons_zero, List.setIfInBounds_toArray, List.set_cons_zero, List.set_cons_succ])
            refine wpAnyH_take (i := 13) (v := ?_) rfl (by kernel_rfl) (by kernel_rfl) (by kernel_rfl) (fun _ _ _ h => h) (Or.inl ⟨by rfl, ?_⟩) hHeld ?_
            rotate_left
            · intro w hSw; (try dsimp only at hSw); go_simp
              all_goals (with_reducible rfl)
            (try simp only [Act.put, List.getElem_toArray, List.getElem_cons_succ, List.getElem_cons_zero, List.setIfInBounds_toArray, List.set_cons_zero, List.set_cons_succ])
            refine wpAnyH_take (i := 14) (v := ?_) rfl (by kernel_rfl) (by kernel_rfl) (by kernel_rfl) (fun _ _ _ h => h) (Or.inl ⟨by rfl, ?_⟩) hHeld ?_
            rotate_left
            · intro w hSw; (try dsimp only at hSw); go_simp
              all_goals (with_reducible rfl)
            (try simp only [Act.put, List.getElem_toArray, List.getElem_cons_succ, List.getElem_cons_zero, List.setIfInBounds_toArray, List.set_cons_zero, List.set_cons_succ])
            refine wpAnyH_take (i := 15) (v := ?_) rfl (by kernel_rfl) (by kernel_rfl) (by kernel_rfl) (fun _ _ _ h => h) (Or.inl ⟨by rfl, ?_⟩) hHeld ?_
            rotate_left
            · intro w hSw; (try dsimp only at hSw); go_simp
              all_goals (with_reducible rfl)
            (try simp only [Act.put, List.getElem_toArray, List.getElem_cons_succ, List.getElem_cons_zero, List.setIfInBounds_toArray, List.set_cons_zero, List.set_cons_succ])
            refine wpAnyH_take (i := 16) (v := ?_) rfl (by kernel_rfl) (by kernel_rfl) (by kernel_rfl) (fun _ _ _ h => h) (Or.inl ⟨by rfl, ?_⟩) hHeld ?_
            rotate_left
            · intro w hSw; (try dsimp only at hSw); go_simp
              all_goals (with_reducible rfl)
            (try simp only [Act.put, List.getElem_toArray, List.getElem_cons_succ, List.getElem_cons_zero, List.setIfInBounds_toArray, List.set_cons_zero, List.set_cons_succ])
            refine wpAnyH_ready (rs := [3]) (by kernel_rfl) (by simp) ?_
            refine AllReadyH.cons rfl (fun K hK => ?_) AllReadyH.nil
            go_simp
            refine hK.out _ _ (⟨bk7, bk8, bk9⟩) (fun hHeld => ?_)
            clear hK K
            (try simp only [Act.put, List.getElem_toArray, List.getElem_cons_succ, List.getElem_cons_zero, List.setIfInBounds_toArray, List.set_cons_zero, List.set_cons_succ])
            refine wpAnyH_ready (rs := [17]) (by kernel_rfl) (by simp) ?_
            refine AllReadyH.cons rfl (fun K hK => ?_) AllReadyH.nil
            go_simp
            go_wp2_with (go_at_call 10; refine hcc.mono ?_; rintro _ w5 ⟨qA, rfl, hhA, hbA⟩)
            have hBA : Below wk.heap.size wk w5 := ⟨hbA.os, hbA.tape, hbA.output, hbA.size, hbA.block⟩
            have hB5 := (hBA.block _ (heap_lt HK2.out.2.2.2.2.2.1)).trans HK2.out.2.2.2.2.2.1
            have b57 := cell_of_heap hB5 (i := 7) (v := .int .i64 x.sn) rfl
            have b58 := cell_of_heap hB5 (i := 8) (v := .slice ka x.keep.length kc) rfl
            have b59 := cell_of_heap hB5 (i := 9) (v := .int .i64 x.st) rfl
            have n1 := (hBA.block _ (heap_lt HK2.out.2.2.2.1)).trans HK2.out.2.2.2.1
            have n2 := (hBA.block _ (heap_lt HK2.out.2.2.2.2.1)).trans HK2.out.2.2.2.2.1
            have x1 := cell_of_heap n1 (ptrs_at HA1.out.2.2.2.1)
            have y1 := frozen_of_heap (i := dst) n1
            
            refine hK.out _ _ (⟨b57, b58, b59⟩) (fun hHeld => ?_)
            clear hK K
            (try simp only [Act.put, List.getElem_toArray, List.getElem_cons_succ, List.getElem_cons_zero, List.setIfInBounds_toArray, List.set_cons_zero, List.set_cons_succ])
            refine wpAnyH_take (i := 18) (v := ?_) rfl (by kernel_rfl) (by kernel_rfl) (by kernel_rfl) (fun _ _ _ h => h) (Or.inl ⟨by rfl, ?_⟩) hHeld ?_
            rotate_left
            · intro w hSw; (try dsimp only at hSw); go_simp
              all_goals (with_reducible rfl)
            (try simp only [Act.put, List.getElem_toArray, List.getElem_cons_succ, List.getElem_cons_zero, List.setIfInBounds_toArray, List.set_cons_zero, List.set_cons_succ])
            refine wpAnyH_ready (rs := [19]) (by kernel_rfl) (by simp) ?_
            refine AllReadyH.cons rfl (fun K hK => ?_) AllReadyH.nil
            go_simp
            obtain ⟨w6, hw6⟩ : ∃ w6, w5.setCell ⟨bt, dst, none⟩ (.pointer qA) = w6 := ⟨_, rfl⟩
            rw [hw6]
            have hc6 : Chg (fun b => b = bt ∨ b = bt + 1) w5 w6 := by rw [← hw6]; exact Chg.set _ (.inl rfl)
            have m1 := heap_set_cells (i := dst) (.pointer qA) n1
            rw [hw6, ptrs_set] at m1
            have m2 : w6.heap[bt + 1]? = some (.cells (ptrs l2) 64 (0, 0)) := (by rw [← hw6]; exact (Below.heap_setCell _ _ _ _ (by show bt + 1 ≠ bt; omega)).trans n2)
            have hB6 := hc6.obj hB5 (by omega)
            have b67 := cell_of_heap hB6 (i := 7) (v := .int .i64 x.sn) rfl
            have b68 := cell_of_heap hB6 (i := 8) (v := .slice ka x.keep.length kc) rfl
            have b69 := cell_of_heap hB6 (i := 9) (v := .int .i64 x.st) rfl
            
            refine hK.out _ _ (⟨b67, b68, b69⟩) (fun hHeld => ?_)
            clear hK K
            (try simp only [Act.put, List.getElem_toArray, List.getElem_cons_succ, List.getElem_cons_zero, List.setIfInBounds_toArray, List.set_cons_zero, List.set_cons_succ])
            refine wpAnyH_done (by kernel_rfl) ?_ _
            clear hHeld hcc hw6 hsl x1 y1 b57 b58 b59 cp bk7 bk8 bk9 n1 n2
            have cq := cell_of_heap m2 (ptrs_at HA1.out.2.1)
            have s5 : wk.heap.size ≤ w5.heap.size := hbA.size
            have s6 := hc6.size
            have hck6 : Chg (fun b => b = bt ∨ b = bt + 1) wk.drew w6 := (Chg.of_below hbA).trans hc6 (fun _ h _ => h)
            have hP6 : PairO (F who) (G who) w6.drew p o q o := HK2.out.2.1.kept (hck6.drew) (fun b hb hO => by have := HK2.out.1.outF who b hb; omega) (fun b hb hO => by have := HK2.out.1.outG who b hb; omega)
            have hb0k : Below w.heap.size w wk := HD.out.2.2.2.1.trans (hbk.mono HD.out.2.2.2.1.size)
            have hb06 : Below w.heap.size w w6 := ((Chg.of_below (O := fun b => w.heap.size ≤ b) hb0k).trans ((Chg.of_below (O := fun b => b = bt ∨ b = bt + 1) hBA).trans hc6 (fun _ h _ => h)) (fun b hb _ => by omega)).below (fun _ h => h)
            have hcf := hce w6.drew hP6 (fun h => (HK.out.1.1.below hb06) h)
            have hck5 := Lib.hid hck6
            clear hce hck6 hP6
            go_upto_region 22 with fail
            refine wp_region_held_drew (S := fun w' => w'.cell? ⟨bx, 7, none⟩ = some (.int .i64 x.sn) ∧ w'.cell? ⟨bx, 8, none⟩ = some (.slice ka x.keep.length kc) ∧ w'.cell? ⟨bx, 9, none⟩ = some (.int .i64 x.st)) (by kernel_rfl) (⟨b67, b68, b69⟩) (fun hHeld => ?_)
            refine wpAnyH_take (i := 0) (v := ?_) rfl (by kernel_rfl) (by kernel_rfl) (by kernel_rfl) (fun _ _ _ h => h) (Or.inl ⟨by rfl, ?_⟩) hHeld ?_
            rotate_left
            · intro w hSw; (try dsimp only at hSw); go_simp
              all_goals (with_reducible rfl)
            (try simp only [Act.put, List.getElem_toArray, List.getElem_cons_succ, List.getElem_cons_zero, List.setIfInBounds_toArray, List.set_cons_zero, List.set_cons_succ])
            refine wpAnyH_take (i := 1) (v := ?_) rfl (by kernel_rfl) (by kernel_rfl) (by kernel_rfl) (fun _ _ _ h => h) (Or.inl ⟨by rfl, ?_⟩) hHeld ?_
            rotate_left
            · intro w hSw; (try dsimp only at hSw); go_simp
              all_goals (with_reducible rfl)
            (try simp only [Act.put, List.getElem_toArray, List.getElem_cons_succ, List.getElem_cons_zero, List.setIfInBounds_toArray, List.set_cons_zero, List.set_cons_succ])
            refine wpAnyH_take (i := 2) (v := ?_) rfl (by kernel_rfl) (by kernel_rfl) (by kernel_rfl) (fun _ _ _ h => h) (Or.inl ⟨by rfl, ?_⟩) hHeld ?_
            rotate_left
            · intro w hSw; (try dsimp only at hSw); go_simp
              all_goals (with_reducible rfl)
            (try simp only [Act.put, List.getElem_toArray, List.getElem_cons_succ, List.getElem_cons_zero, List.setIfInBounds_toArray, List.set_cons_zero, List.set_cons_succ])
            refine wpAnyH_take (i := 4) (v := ?_) rfl (by kernel_rfl) (by kernel_rfl) (by kernel_rfl) (fun _ _ _ h => h) (Or.inl ⟨by rfl, ?_⟩) hHeld ?_
            rotate_left
            · intro w hSw; (try dsimp only at hSw); go_simp
              all_goals (with_reducible rfl)
            (try simp only [Act.put, List.getElem_toArray, List.getElem_cons_succ, List.getElem_cons_zero, List.setIfInBounds_toArray, List.set_cons_zero, List.set_cons_succ])
            refine wpAnyH_take (i := 5) (v := ?_) rfl (by kernel_rfl) (by kernel_rfl) (by kernel_rfl) (fun _ _ _ h => h) (Or.inl ⟨by rfl, ?_⟩) hHeld ?_
            rotate_left
            · intro w hSw; (try dsimp only at hSw); go_simp
              all_goals (with_reducible rfl)
            (try simp only [Act.put, List.getElem_toArray, List.getElem_cons_succ, List.getElem_cons_zero, List.setIfInBounds_toArray, List.set_cons_zero, List.set_cons_succ])
            refine wpAnyH_ready (rs := [3]) (by kernel_rfl) (by simp) ?_
            refine AllReadyH.cons rfl (fun K hK => ?_) AllReadyH.nil
            go_simp
            refine hK.out _ _ (⟨b67, b68, b69⟩) (fun hHeld => ?_)
            clear hK K
            (try simp only [Act.put, List.getElem_toArray, List.getElem_cons_succ, List.getElem_cons_zero, List.setIfInBounds_toArray, List.set_cons_zero, List.set_cons_succ])
            refine wpAnyH_ready (rs := [6]) (by kernel_rfl) (by simp) ?_
            refine AllReadyH.cons rfl (fun K hK => ?_) AllReadyH.nil
            go_simp
            go_wp2_with (go_at_call 11; refine hcf.mono ?_; rintro _ w7 ⟨qB, rfl, hhB, hbB⟩)
            have hBB : Below w6.heap.size w6 w7 := ⟨hbB.os, hbB.tape, hbB.output, hbB.size, hbB.block⟩
            have hB7 := (hBB.block _ (heap_lt hB6)).trans hB6
            have b77 := cell_of_heap hB7 (i := 7) (v := .int .i64 x.sn) rfl
            have b78 := cell_of_heap hB7 (i := 8) (v := .slice ka x.keep.length kc) rfl
            have b79 := cell_of_heap hB7 (i := 9) (v := .int .i64 x.st) rfl
            have n1 := (hBB.block _ (heap_lt m1)).trans m1
            have n2 := (hBB.block _ (heap_lt m2)).trans m2
            have x1 := cell_of_heap n2 (ptrs_at HA1.out.2.2.2.2.1)
            have y1 := frozen_of_heap (i := dst) n2
            
            refine hK.out _ _ (⟨b77, b78, b79⟩) (fun hHeld => ?_)
            clear hK K
            (try simp only [Act.put, List.getElem_toArray, List.getElem_cons_succ, List.getElem_cons_zero, List.setIfInBounds_toArray, List.set_cons_zero, List.set_cons_succ])
            refine wpAnyH_take (i := 7) (v := ?_) rfl (by kernel_rfl) (by kernel_rfl) (by kernel_rfl) (fun _ _ _ h => h) (Or.inl ⟨by rfl, ?_⟩) hHeld ?_
            rotate_left
            · intro w hSw; (try dsimp only at hSw); go_simp
              all_goals (with_reducible rfl)
            (try simp only [Act.put, List.getElem_toArray, List.getElem_cons_succ, List.getElem_cons_zero, List.setIfInBounds_toArray, List.set_cons_zero, List.set_cons_succ])
            refine wpAnyH_ready (rs := [8]) (by kernel_rfl) (by simp) ?_
            refine AllReadyH.cons rfl (fun K hK => ?_) AllReadyH.nil
            go_simp
            obtain ⟨w8, hw8⟩ : ∃ w8, w7.setCell ⟨bt + 1, dst, none⟩ (.pointer qB) = w8 := ⟨_, rfl⟩
            rw [hw8]
            have hc8 : Chg (fun b => b = bt ∨ b = bt + 1) w7 w8 := by rw [← hw8]; exact Chg.set _ (.inr rfl)
            have o2 := heap_set_cells (i := dst) (.pointer qB) n2
            rw [hw8, ptrs_set] at o2
            have o1 : w8.heap[bt]? = some (.cells (ptrs (l1.set dst qA)) 63 (0, 0)) := (by rw [← hw8]; exact (Below.heap_setCell _ _ _ _ (by show bt ≠ bt + 1; omega)).trans n1)
            have hB8 := hc8.obj hB7 (by omega)
            have b87 := cell_of_heap hB8 (i := 7) (v := .int .i64 x.sn) rfl
            have b88 := cell_of_heap hB8 (i := 8) (v := .slice ka x.keep.length kc) rfl
            have b89 := cell_of_heap hB8 (i := 9) (v := .int .i64 x.st) rfl
            
            refine hK.out _ _ (⟨b87, b88, b89⟩) (fun hHeld => ?_)
            clear hK K
            (try simp only [Act.put, List.getElem_toArray, List.getElem_cons_succ, List.getElem_cons_zero, List.setIfInBounds_toArray, List.set_cons_zero, List.set_cons_succ])
            refine wpAnyH_done (by kernel_rfl) ?_ _
            clear hHeld hcf hw8 x1 y1 b77 b78 b79 b67 b68 b69 cq
            have s7 : w6.heap.size ≤ w7.heap.size := hbB.size
            have s8 := hc8.size
            have hc57 : Chg (fun b => b = bt ∨ b = bt + 1) w5 w7 := hc6.trans (Chg.of_below hBB) (fun _ h _ => h)
            have hPN : PlaysAt w2.heap.size bt (bt + 1) (L.length + k) w8 := PlaysAt.renewed ⟨HA1.out.2.2.2.2.2.2.2.2.2.1, HA1.out.2.2.2.2.2.2.2.2.2.2.1, HA1.out.2.2.2.2.2.2.2.2.2.2.2⟩ HK2.out.1 HA1.out.2.2.2.2.2.2.2.2.1 (who := who) (dst := dst) (stopO_okP (HA1.out.2.2.2.2.2.2.2.2.1 who o HA1.out.2.2.1)) (hck5.out.trans (Chg.of_below hBB) (fun _ h _ => h)) hhA hc57 hhB s5 (by show w5.heap.size ≤ w6.heap.size; omega) (by show bt < wk.heap.size; omega) (by show bt + 1 < wk.heap.size; omega) (by show w2.heap.size ≤ wk.heap.size; omega) hc8 o1 o2
            have hck8 : Chg (fun b => b = bt ∨ b = bt + 1) wk w8 := ((Chg.of_below (O := fun b => b = bt ∨ b = bt + 1) hBA).trans hc57 (fun _ h _ => h)).trans hc8 (fun _ h _ => h)
            have hcd8 : Chg (fun b => b = bt ∨ b = bt + 1) wd w8 := (Chg.of_below hbk).trans hck8 (fun _ h _ => by omega)
            have hrow8 := hck8.row HK2.out.2.2.2.2.2.2.1 (fun b hb => by have hb' : gk = b := (by simpa [Value.ownBlock] using hb); omega)
            have hrk8 : RowAt w8 (some ⟨gk, 0, none⟩) (x.keep.map Value.bool) := by
              obtain ⟨a3, c3, e3, hr3, _⟩ := RowAt.of_owns hrow8
              cases e3
              have := hr3.take x.keep.length
              rwa [List.take_left' (by simp)] at this
            have hb08 : Below w.heap.size w w8 := ((Chg.of_below (O := fun b => w.heap.size ≤ b) hb0k).trans hck8 (fun b hb _ => by omega)).below (fun _ h => h)
            have hkr8 := HK.out.1.1.below hb08
            have HN := Lib.hid (And.intro hPN (And.intro hcd8 (And.intro hrk8 (And.intro hkr8 hB8))))
            clear hPN hck8 hcd8 hrow8 hrk8 hb08 hkr8 hB8 b87 b89 o1 o2 n1 n2 m1 m2 hB7 hB6 hB5 hhA hhB hc57 hc8 hc6 hbA hbB hBA hBB hb06 hb0k hck5
            go_wp2
            go_loopw [21] (fun i wr => ∃ n : Nat, n ≤ x.keep.length ∧ i = .int .i64 n ∧ Below w8.heap.size w8 wr) (fun i _ => x.keep.length - (RowKit.intOf i).toNat)
            case atStart => exact ⟨0, by omega, rfl, Below.refl _ _⟩
            case round =>
              obtain ⟨n, hn, rfl, hbn⟩ := hrel
              have hBn := (hbn.block _ (heap_lt HN.out.2.2.2.2)).trans HN.out.2.2.2.2
              have bn8 := cell_of_heap hBn (i := 8) (v := .slice ka x.keep.length kc) rfl
              by_cases hlt2 : n < x.keep.length
              · obtain ⟨b', o', e', c1'⟩ := (HN.out.2.2.1.below hbn).at_ (k := n) (by simpa using hlt2)
                simp only [Option.some.injEq, Addr.mk.injEq, and_true] at e'
                obtain ⟨rfl, rfl⟩ := e'
                obtain ⟨kb, ko, rfl, c2'⟩ := (HN.out.2.2.2.1.below hbn).at_ (k := n) (by simpa using hlt2)
                obtain ⟨y, hy⟩ : ∃ y, x.keep[n] = y := ⟨_, rfl⟩
                simp only [List.getElem_map, Nat.zero_add, hy] at c1' c2'
                clear hy hBn
                have l0 : (0 : Int) ≤ (n : Int) := by omega
                have l1' : (n : Int) < (x.keep.length : Int) := by omega
                have l2' : (n : Int) < (x.keep.length : Int) + 1 := by omega
                go_upto_region 26 with fail
                refine wp_region_held_drew (S := fun w' => w'.cell? ⟨gk, n, none⟩ = some (.bool y) ∧ w'.cell? ⟨bx, 8, none⟩ = some (.slice (some ⟨kb, ko, none⟩) x.keep.length kc) ∧ w'.cell? ⟨kb, ko + n, none⟩ = some (.bool y)) (by kernel_rfl) (⟨c1', bn8, c2'⟩) (fun hHeld => ?_)
                refine wpAnyH_take (i := 0) (v := ?_) rfl (by kernel_rfl) (by kernel_rfl) (by kernel_rfl) (fun _ _ _ h => h) (Or.inl ⟨by rfl, ?_⟩) hHeld ?_
                rotate_left
                · intro w hSw; (try dsimp only at hSw); go_simp
                  all_goals (with_reducible rfl)
                (try simp only [Act.put, List.getElem_toArray, List.getElem_cons_succ, List.getElem_cons_zero, List.setIfInBounds_toArray, List.set_cons_zero, List.set_cons_succ])
                refine wpAnyH_take (i := 1) (v := ?_) rfl (by kernel_rfl) (by kernel_rfl) (by kernel_rfl) (fun _ _ _ h => h) (Or.inl ⟨by rfl, ?_⟩) hHeld ?_
                rotate_left
                · intro w hSw; (try dsimp only at hSw); go_simp
                  all_goals (with_reducible rfl)
                (try simp only [Act.put, List.getElem_toArray, List.getElem_cons_succ, List.getElem_cons_zero, List.setIfInBounds_toArray, List.set_cons_zero, List.set_cons_succ])
                refine wpAnyH_take (i := 2) (v := ?_) rfl (by kernel_rfl) (by kernel_rfl) (by kernel_rfl) (fun _ _ _ h => h) (Or.inl ⟨by rfl, ?_⟩) hHeld ?_
                rotate_left
                · intro w hSw; (try dsimp only at hSw); go_simp
                  all_goals (with_reducible rfl)
                (try simp only [Act.put, List.getElem_toArray, List.getElem_cons_succ, List.getElem_cons_zero, List.setIfInBounds_toArray, List.set_cons_zero, List.set_cons_succ])
                refine wpAnyH_take (i := 3) (v := ?_) rfl (by kernel_rfl) (by kernel_rfl) (by kernel_rfl) (fun _ _ _ h => h) (Or.inl ⟨by rfl, ?_⟩) hHeld ?_
                rotate_left
                · intro w hSw; (try dsimp only at hSw); go_simp
                  all_goals (with_reducible rfl)
                (try simp only [Act.put, List.getElem_toArray, List.getElem_cons_succ, List.getElem_cons_zero, List.setIfInBounds_toArray, List.set_cons_zero, List.set_cons_succ])
                refine wpAnyH_take (i := 4) (v := ?_) rfl (by kernel_rfl) (by kernel_rfl) (by kernel_rfl) (fun _ _ _ h => h) (Or.inl ⟨by rfl, ?_⟩) hHeld ?_
                rotate_left
                · intro w hSw; (try dsimp only at hSw); go_simp
                  all_goals (with_reducible rfl)
                (try simp only [Act.put, List.getElem_toArray, List.getElem_cons_succ, List.getElem_cons_zero, List.setIfInBounds_toArray, List.set_cons_zero, List.set_cons_succ])
                refine wpAnyH_take (i := 5) (v := ?_) rfl (by kernel_rfl) (by kernel_rfl) (by kernel_rfl) (fun _ _ _ h => h) (Or.inl ⟨by rfl, ?_⟩) hHeld ?_
                rotate_left
                · intro w hSw; (try dsimp only at hSw); go_simp
                  all_goals (with_reducible rfl)
                (try simp only [Act.put, List.getElem_toArray, List.getElem_cons_succ, List.getElem_cons_zero, List.setIfInBounds_toArray, List.set_cons_zero, List.set_cons_succ])
                refine wpAnyH_take (i := 6) (v := ?_) rfl (by kernel_rfl) (by kernel_rfl) (by kernel_rfl) (fun _ _ _ h => h) (Or.inl ⟨by rfl, ?_⟩) hHeld ?_
                rotate_left
                · intro w hSw; (try dsimp only at hSw); go_simp
                  all_goals (with_reducible rfl)
                (try simp only [Act.put, List.getElem_toArray, List.getElem_cons_succ, List.getElem_cons_zero, List.setIfInBounds_toArray, List.set_cons_zero, List.set_cons_succ])
                refine wpAnyH_take (i := 7) (v := ?_) rfl (by kernel_rfl) (by kernel_rfl) (by kernel_rfl) (fun _ _ _ h => h) (Or.inl ⟨by rfl, ?_⟩) hHeld ?_
                rotate_left
                · intro w hSw; (try dsimp only at hSw); go_simp
                  all_goals (with_reducible rfl)
                (try simp only [Act.put, List.getElem_toArray, List.getElem_cons_succ, List.getElem_cons_zero, List.setIfInBounds_toArray, List.set_cons_zero, List.set_cons_succ])
                refine wpAnyH_take (i := 8) (v := ?_) rfl (by kernel_rfl) (by kernel_rfl) (by kernel_rfl) (fun _ _ _ h => h) (Or.inl ⟨by rfl, ?_⟩) hHeld ?_
                rotate_left
                · intro w hSw; (try dsimp only at hSw); go_simp
                  all_goals (with_reducible rfl)
                (try simp only [Act.put, List.getElem_toArray, List.getElem_cons_succ, List.getElem_cons_zero, List.setIfInBounds_toArray, List.set_cons_zero, List.set_cons_succ])
                refine wpAnyH_take (i := 9) (v := ?_) rfl (by kernel_rfl) (by kernel_rfl) (by kernel_rfl) (fun _ _ _ h => h) (Or.inl ⟨by rfl, ?_⟩) hHeld ?_
                rotate_left
                · intro w hSw; (try dsimp only at hSw); go_simp
                  all_goals (with_reducible rfl)
                (try simp only [Act.put, List.getElem_toArray, List.getElem_cons_succ, List.getElem_cons_zero, List.setIfInBounds_toArray, List.set_cons_zero, List.set_cons_succ])
                refine wpAnyH_take (i := 10) (v := ?_) rfl (by kernel_rfl) (by kernel_rfl) (by kernel_rfl) (fun _ _ _ h => h) (Or.inl ⟨by rfl, ?_⟩) hHeld ?_
                rotate_left
                · intro w hSw; (try dsimp only at hSw); go_simp
                  all_goals (with_reducible rfl)
                (try simp only [Act.put, List.getElem_toArray, List.getElem_cons_succ, List.getElem_cons_zero, List.setIfInBounds_toArray, List.set_cons_zero, List.set_cons_succ])
                refine wpAnyH_done (by kernel_rfl) ?_ _
                clear hHeld
                go_wp2
                go_roundw
                case rel => exact ⟨n + 1, by omega, by go_num, hbn.drew⟩
                case measure => simp [RowKit.intOf]; omega
              · obtain rfl : n = x.keep.length := by omega
                have l1' : ¬ (x.keep.length : Int) < (x.keep.length : Int) := by omega
                have HPN := Lib.hid (And.intro (HN.out.2.1.trans (Chg.of_below (O := fun b => b = bt ∨ b = bt + 1) hbn) (fun _ h _ => h)) (HN.out.1.below hbn))
                go_wp2
                go_meet
                case rel => exact HPN.out
          · have g2 : (x.kind == 11) = false := by simp [k11]
            have hPN := Lib.hid (And.intro (Chg.refl (fun b => b = bt ∨ b = bt + 1) wd) HD.out.2.2.1)
            go_wp2
            go_meet
            case rel => exact hPN.out
      case rest =>
        obtain ⟨hcC, hPC⟩ := hcut
        obtain ⟨l1, l2, os, F, G, ⟨hl1, hl2, hl3⟩, ht1, ht2, hT, hok⟩ := hPC
        obtain ⟨p, hp⟩ : ∃ p, l1[who]? = some p := ⟨l1[who]'(by omega), by simp⟩
        obtain ⟨q, hq⟩ : ∃ p, l2[who]? = some p := ⟨l2[who]'(by omega), by simp⟩
        obtain ⟨o, ho⟩ : ∃ p, os[who]? = some p := ⟨os[who]'(by omega), by simp⟩
        obtain ⟨p2, hp2⟩ : ∃ p, l1[dst]? = some p := ⟨l1[dst]'(by omega), by simp⟩
        obtain ⟨qq2, hq2⟩ : ∃ p, l2[dst]? = some p := ⟨l2[dst]'(by omega), by simp⟩
        obtain ⟨o2, ho2⟩ : ∃ p, os[dst]? = some p := ⟨os[dst]'(by omega), by simp⟩
        have hn2 : p2.isNone = qq2.isNone := (hT.pair dst p2 qq2 o2 hp2 hq2 ho2).isNone'
        have hBc := hcC.obj HD.out.2.2.2.2.2 (by omega)
        have b0 := cell_of_heap hBc (i := 0) (v := .int .i64 x.kind) rfl
        have b1 := cell_of_heap hBc (i := 1) (v := .int .i64 x.who) rfl
        have b2 := cell_of_heap hBc (i := 2) (v := .string ⟨x.name.toArray⟩) rfl
        have b3 := cell_of_heap hBc (i := 3) (v := .string ⟨x.dst.toArray⟩) rfl
        have b4 := cell_of_heap hBc (i := 4) (v := .int .i64 x.at_) rfl
        have b5 := cell_of_heap hBc (i := 5) (v := .int .i64 x.n) rfl
        have b6 := cell_of_heap hBc (i := 6) (v := .slice da x.data.length dc) rfl
        have b7 := cell_of_heap hBc (i := 7) (v := .int .i64 x.sn) rfl
        have b8 := cell_of_heap hBc (i := 8) (v := .slice ka x.keep.length kc) rfl
        have b9 := cell_of_heap hBc (i := 9) (v := .int .i64 x.st) rfl
        have cp := cell_of_heap ht1 (ptrs_at hp)
        have cq := cell_of_heap ht2 (ptrs_at hq)
        have cp2 := cell_of_heap ht1 (ptrs_at hp2)
        have cq2 := cell_of_heap ht2 (ptrs_at hq2)
        have hzc := hcC.size
        have hb0c : Below w.heap.size w wc := ((Chg.of_below (O := fun b => w.heap.size ≤ b) HD.out.2.2.2.1).trans hcC (fun b hb _ => by omega)).below (fun _ h => h)
        have hTc := hT.kept (O := fun _ => False) ((Chg.refl (fun _ => False) wc).drew) (fun _ _ _ h => h) (fun _ _ _ h => h)
        have hdo := asks_law (hTc.pair who p q o hp hq ho) (lo := w2.heap.size) (ka := ka) (kc := kc) HX.out.2.2 (fun h => (HK.out.2.1.below hb0c) h) HK.out.2.2.1 (fun y e hd => by have := HK.out.2.2.2.1 y e hd; omega) (hok who o ho).ok (by omega) (by show w2.heap.size ≤ wc.heap.size; omega) (hTc.ltF who) (hTc.ltG who)
        unfold encA at hdo
        have i0 : (0 : Int) ≤ (who : Int) := by omega
        have i1 : (who : Int) < 3 := by omega
        have i2 : (0 : Int) ≤ (dst : Int) := by omega
        have i3 : (dst : Int) < 3 := by omega
        have hof := fun b (hb : F who b) => hT.outF who b hb
        have HA1 := Lib.hid (And.intro hp (And.intro hq (And.intro ho (And.intro hTc (And.intro ht1 (And.intro ht2 (And.intro hok (And.intro (And.intro hl1 (And.intro hl2 hl3)) (And.intro hb0c hcC)))))))))
        clear hp hq ho hp2 hq2 ho2 hT hTc ht1 ht2 hok hl1 hl2 hl3 hBc hb0c hcC
        go_upto_region 28 with fail
        refine wp_region_held_drew (S := fun w' => w'.cell? ⟨bt, dst, none⟩ = some (.pointer p2) ∧ w'.cell? ⟨bt + 1, dst, none⟩ = some (.pointer qq2) ∧ w'.cell? ⟨bt, who, none⟩ = some (.pointer p) ∧ w'.cell? ⟨bt + 1, who, none⟩ = some (.pointer q)) (by kernel_rfl) (⟨cp2, cq2, cp, cq⟩) (fun hHeld => ?_)
        refine wpAnyH_take (i := 0) (v := ?_) rfl (by kernel_rfl) (by kernel_rfl) (by kernel_rfl) (fun _ _ _ h => h) (Or.inl ⟨by rfl, ?_⟩) hHeld ?_
        rotate_left
        · intro w hSw; (try dsimp only at hSw); go_simp
          all_goals (with_reducible rfl)
        (try simp only [Act.put, List.getElem_toArray, List.getElem_cons_succ, List.getElem_cons_zero, List.setIfInBounds_toArray, List.set_cons_zero, List.set_cons_succ])
        refine wpAnyH_take (i := 1) (v := ?_) rfl (by kernel_rfl) (by kernel_rfl) (by kernel_rfl) (fun _ _ _ h => h) (Or.inl ⟨by rfl, ?_⟩) hHeld ?_
        rotate_left
        · intro w hSw; (try dsimp only at hSw); go_simp
          all_goals (with_reducible rfl)
        (try simp only [Act.put, List.getElem_toArray, List.getElem_cons_succ, List.getElem_cons_zero, List.setIfInBounds_toArray, List.set_cons_zero, List.set_cons_succ])
        refine wpAnyH_take (i := 2) (v := ?_) rfl (by kernel_rfl) (by kernel_rfl) (by kernel_rfl) (fun _ _ _ h => h) (Or.inl ⟨by rfl, ?_⟩) hHeld ?_
        rotate_left
        · intro w hSw; (try dsimp only at hSw); go_simp
          all_goals (with_reducible rfl)
        (try simp only [Act.put, List.getElem_toArray, List.getElem_cons_succ, List.getElem_cons_zero, List.setIfInBounds_toArray, List.set_cons_zero, List.set_cons_succ])
        refine wpAnyH_take (i := 3) (v := ?_) rfl (by kernel_rfl) (by kernel_rfl) (by kernel_rfl) (fun _ _ _ h => h) (Or.inl ⟨by rfl, ?_⟩) hHeld ?_
        rotate_left
        · intro w hSw; (try dsimp only at hSw); go_simp
          all_goals (with_reducible rfl)
        (try simp only [Act.put, List.getElem_toArray, List.getElem_cons_succ, List.getElem_cons_zero, List.setIfInBounds_toArray, List.set_cons_zero, List.set_cons_succ])
        refine wpAnyH_take (i := 4) (v := ?_) rfl (by kernel_rfl) (by kernel_rfl) (by kernel_rfl) (fun _ _ _ h => h) (Or.inl ⟨by rfl, ?_⟩) hHeld ?_
        rotate_left
        · intro w hSw; (try dsimp only at hSw); go_simp
          all_goals (with_reducible rfl)
        (try simp only [Act.put, List.getElem_toArray, List.getElem_cons_succ, List.getElem_cons_zero, List.setIfInBounds_toArray, List.set_cons_zero, List.set_cons_succ])
        refine wpAnyH_take (i := 5) (v := ?_) rfl (by kernel_rfl) (by kernel_rfl) (by kernel_rfl) (fun _ _ _ h => h) (Or.inl ⟨by rfl, ?_⟩) hHeld ?_
        rotate_left
        · intro w hSw; (try dsimp only at hSw); go_simp
          all_goals (with_reducible rfl)
        (try simp only [Act.put, List.getElem_toArray, List.getElem_cons_succ, List.getElem_cons_zero, List.setIfInBounds_toArray, List.set_cons_zero, List.set_cons_succ])
        refine wpAnyH_take (i := 6) (v := ?_) rfl (by kernel_rfl) (by kernel_rfl) (by kernel_rfl) (fun _ _ _ h => h) (Or.inl ⟨by rfl, ?_⟩) hHeld ?_
        rotate_left
        · intro w hSw; (try dsimp only at hSw); go_simp
          all_goals (with_reducible rfl)
        (try simp only [Act.put, List.getElem_toArray, List.getElem_cons_succ, List.getElem_cons_zero, List.setIfInBounds_toArray, List.set_cons_zero, List.set_cons_succ])
        refine wpAnyH_take (i := 7) (v := ?_) rfl (by kernel_rfl) (by kernel_rfl) (by kernel_rfl) (fun _ _ _ h => h) (Or.inl ⟨by rfl, ?_⟩) hHeld ?_
        rotate_left
        · intro w hSw; (try dsimp only at hSw); go_simp
          all_goals (with_reducible rfl)
        (try simp only [Act.put, List.getElem_toArray, List.getElem_cons_succ, List.getElem_cons_zero, List.setIfInBounds_toArray, List.set_cons_zero, List.set_cons_succ])
        refine wpAnyH_take (i := 8) (v := ?_) rfl (by kernel_rfl) (by kernel_rfl) (by kernel_rfl) (fun _ _ _ h => h) (Or.inl ⟨by rfl, ?_⟩) hHeld ?_
        rotate_left
        · intro w hSw; (try dsimp only at hSw); go_simp
          all_goals (with_reducible rfl)
        (try simp only [Act.put, List.getElem_toArray, List.getElem_cons_succ, List.getElem_cons_zero, List.setIfInBounds_toArray, List.set_cons_zero, List.set_cons_succ])
        refine wpAnyH_take (i := 9) (v := ?_) rfl (by kernel_rfl) (by kernel_rfl) (by kernel_rfl) (fun _ _ _ h => h) (Or.inl ⟨by rfl, ?_⟩) hHeld ?_
        rotate_left
        · intro w hSw; (try dsimp only at hSw); go_simp
          all_goals (with_reducible rfl)
        (try simp only [Act.put, List.getElem_toArray, List.getElem_cons_succ, List.getElem_cons_zero, List.setIfInBounds_toArray, List.set_cons_zero, List.set_cons_succ])
        refine wpAnyH_take (i := 10) (v := ?_) rfl (by kernel_rfl) (by kernel_rfl) (by kernel_rfl) (fun _ _ _ h => h) (Or.inl ⟨by rfl, ?_⟩) hHeld ?_
        rotate_left
        · intro w hSw; (try dsimp only at hSw); go_simp
          all_goals (with_reducible rfl)
        (try simp only [Act.put, List.getElem_toArray, List.getElem_cons_succ, List.getElem_cons_zero, List.setIfInBounds_toArray, List.set_cons_zero, List.set_cons_succ])
        refine wpAnyH_take (i := 11) (v := ?_) rfl (by kernel_rfl) (by kernel_rfl) (by kernel_rfl) (fun _ _ _ h => h) (Or.inl ⟨by rfl, ?_⟩) hHeld ?_
        rotate_left
        · intro w hSw; (try dsimp only at hSw); go_simp
          all_goals (with_reducible rfl)
        (try simp only [Act.put, List.getElem_toArray, List.getElem_cons_succ, List.getElem_cons_zero, List.setIfInBounds_toArray, List.set_cons_zero, List.set_cons_succ])
        refine wpAnyH_take (i := 12) (v := ?_) rfl (by kernel_rfl) (by kernel_rfl) (by kernel_rfl) (fun _ _ _ h => h) (Or.inl ⟨by rfl, ?_⟩) hHeld ?_
        rotate_left
        · intro w hSw; (try dsimp only at hSw); go_simp
          all_goals (with_reducible rfl)
        (try simp only [Act.put, List.getElem_toArray, List.getElem_cons_succ, List.getElem_cons_zero, List.setIfInBounds_toArray, List.set_cons_zero, List.set_cons_succ])
        refine wpAnyH_take (i := 13) (v := ?_) rfl (by kernel_rfl) (by kernel_rfl) (by kernel_rfl) (fun _ _ _ h => h) (Or.inl ⟨by rfl, ?_⟩) hHeld ?_
        rotate_left
        · intro w hSw; (try dsimp only at hSw); go_simp
          all_goals (with_reducible rfl)
        (try simp only [Act.put, List.getElem_toArray, List.getElem_cons_succ, List.getElem_cons_zero, List.setIfInBounds_toArray, List.set_cons_zero, List.set_cons_succ])
        refine wpAnyH_take (i := 14) (v := ?_) rfl (by kernel_rfl) (by kernel_rfl) (by kernel_rfl) (fun _ _ _ h => h) (Or.inl ⟨by rfl, ?_⟩) hHeld ?_
        rotate_left
        · intro w hSw; (try dsimp only at hSw); go_simp
          all_goals (with_reducible rfl)
        (try simp only [Act.put, List.getElem_toArray, List.getElem_cons_succ, List.getElem_cons_zero, List.setIfInBounds_toArray, List.set_cons_zero, List.set_cons_succ])
        refine wpAnyH_take (i := 15) (v := ?_) rfl (by kernel_rfl) (by kernel_rfl) (by kernel_rfl) (fun _ _ _ h => h) (Or.inl ⟨by rfl, ?_⟩) hHeld ?_
        rotate_left
        · intro w hSw; (try dsimp only at hSw); go_simp
          all_goals (with_reducible rfl)
        (try simp only [Act.put, List.getElem_toArray, List.getElem_cons_succ, List.getElem_cons_zero, List.setIfInBounds_toArray, List.set_cons_zero, List.set_cons_succ])
        refine wpAnyH_ready (rs := [16]) (by kernel_rfl) (by simp) ?_
        refine AllReadyH.cons rfl (fun K hK => ?_) AllReadyH.nil
        go_simp
        refine hK.out _ _ (⟨cp2, cq2, cp, cq⟩) (fun hHeld => ?_)
        clear hK K
        (try simp only [Act.put, List.getElem_toArray, List.getElem_cons_succ, List.getElem_cons_zero, List.setIfInBounds_toArray, List.set_cons_zero, List.set_cons_succ])
        refine wpAnyH_ready (rs := [17]) (by kernel_rfl) (by simp) ?_
        refine AllReadyH.cons rfl (fun K hK => ?_) AllReadyH.nil
        go_simp
        go_wp2_with (go_at_call 9; refine hdo.mono ?_; rintro _ w5 ⟨rfl, hc5, hb5, F', G', hP', hF', hG'⟩)
        have u1 := hc5.cell cp2 (fun hf => (hof _ hf).1 rfl)
        have u2 := hc5.cell cq2 (fun hf => (hof _ hf).2 rfl)
        have u3 := hc5.cell cp (fun hf => (hof _ hf).1 rfl)
        have u4 := hc5.cell cq (fun hf => (hof _ hf).2 rfl)
        
        refine hK.out _ _ (⟨u1, u2, u3, u4⟩) (fun hHeld => ?_)
        clear hK K
        (try simp only [Act.put, List.getElem_toArray, List.getElem_cons_succ, List.getElem_cons_zero, List.setIfInBounds_toArray, List.set_cons_zero, List.set_cons_succ])
        refine wpAnyH_take (i := 18) (v := ?_) rfl (by kernel_rfl) (by kernel_rfl) (by kernel_rfl) (fun _ _ _ h => h) (Or.inl ⟨by rfl, ?_⟩) hHeld ?_
        rotate_left
        · intro w hSw; (try dsimp only at hSw); go_simp
          all_goals (with_reducible rfl)
        (try simp only [Act.put, List.getElem_toArray, List.getElem_cons_succ, List.getElem_cons_zero, List.setIfInBounds_toArray, List.set_cons_zero, List.set_cons_succ])
        refine wpAnyH_take (i := 19) (v := ?_) rfl (by kernel_rfl) (by kernel_rfl) (by kernel_rfl) (fun _ _ _ h => h) (Or.inl ⟨by rfl, ?_⟩) hHeld ?_
        rotate_left
        · intro w hSw; (try dsimp only at hSw); go_simp
          all_goals (with_reducible rfl)
        (try simp only [Act.put, List.getElem_toArray, List.getElem_cons_succ, List.getElem_cons_zero, List.setIfInBounds_toArray, List.set_cons_zero, List.set_cons_succ])
        refine wpAnyH_done (by kernel_rfl) ?_ _
        clear hHeld hdo
        have hPA : PlaysAt w2.heap.size bt (bt + 1) (L.length + k + 1) w5 := PlaysAt.asked HA1.out.2.2.2.2.2.2.2.1 HA1.out.2.2.2.1 HA1.out.2.2.2.2.2.2.1 HA1.out.2.2.2.2.1 HA1.out.2.2.2.2.2.1 HA1.out.1 HA1.out.2.1 HA1.out.2.2.1 hc5 (by show w2.heap.size ≤ wc.heap.size; omega) hP' hF' hG'
        have hbW : Below w.heap.size w w5 := HA1.out.2.2.2.2.2.2.2.2.1.trans ((⟨hb5.os, hb5.tape, hb5.output, hb5.size, hb5.block⟩ : Below w2.heap.size wc w5).mono (by omega))
        have hzz : w10.heap.size ≤ w5.heap.size := by have h1 := hb5.size; have h2 : wc.drew.heap.size = wc.heap.size := rfl; omega
        have HR := Lib.hid (And.intro hPA (And.intro hbW hzz))
        clear hPA hbW hzz u1 u2 u3 u4 hP' hF' hG' hc5 hb5 cp cq cp2 cq2 b0 b1 b2 b3 b4 b5 b6 b7 b8 b9
        go_wp2
        go_roundw
        case rel => exact ⟨k + 1, by omega, by go_num, HR.out.2.1, HR.out.2.2, HR.out.1⟩
        case measure => simp [RowKit.intOf]; omega
    · obtain rfl : k = xs.length := by omega
      have j1 : ¬ (xs.length : Int) < (xs.length : Int) := by omega
      rename World => we
      have hbe := hb
      clear hb
      go_wp2
      go_loopw [22] (fun i wr => ∃ n : Nat, n ≤ 3 ∧ i = .int .i64 n ∧ Below we.heap.size we wr) (fun i _ => 3 - (RowKit.intOf i).toNat)
      case atStart => exact ⟨0, by omega, rfl, Below.refl _ _⟩
      case round =>
        obtain ⟨n, hn, rfl, hbn⟩ := hrel
        by_cases hlt3 : n < 3
        · obtain ⟨l1, l2, os, F, G, ⟨hl1, hl2, hl3⟩, ht1, ht2, hT, hok⟩ := hP.below hbn
          obtain ⟨p, hp⟩ : ∃ p, l1[n]? = some p := ⟨l1[n]'(by omega), by simp⟩
          obtain ⟨q, hq⟩ : ∃ p, l2[n]? = some p := ⟨l2[n]'(by omega), by simp⟩
          obtain ⟨o, ho⟩ : ∃ p, os[n]? = some p := ⟨os[n]'(by omega), by simp⟩
          have cp := cell_of_heap ht1 (ptrs_at hp)
          have cq := cell_of_heap ht2 (ptrs_at hq)
          have hTc := hT.kept (O := fun _ => False) ((Chg.refl (fun _ => False) wr).drew) (fun _ _ _ h => h) (fun _ _ _ h => h)
          have hPr := hTc.pair n p q o hp hq ho
          have hOK := (hok n o ho).ok
          have hte := tells_any hPr hOK (by omega)
          have hgo := fun (W : World) (hW : Below wr.drew.heap.size wr.drew W) => (hPr.below hW).goes 0 hOK (by omega)
          have i0 : (0 : Int) ≤ (n : Int) := by omega
          have i1 : (n : Int) < 3 := by omega
          clear hp hq ho hT hTc ht1 ht2 hok hl1 hl2 hl3 hPr hOK
          go_upto_region 33 with fail
          refine wp_region_held_drew (S := fun w' => w'.cell? ⟨bt, n, none⟩ = some (.pointer p) ∧ w'.cell? ⟨bt + 1, n, none⟩ = some (.pointer q)) (by kernel_rfl) (⟨cp, cq⟩) (fun hHeld => ?_)
          refine wpAnyH_take (i := 0) (v := ?_) rfl (by kernel_rfl) (by kernel_rfl) (by kernel_rfl) (fun _ _ _ h => h) (Or.inl ⟨by rfl, ?_⟩) hHeld ?_
          rotate_left
          · intro w hSw; (try dsimp only at hSw); go_simp
            all_goals (with_reducible rfl)
          (try simp only [Act.put, List.getElem_toArray, List.getElem_cons_succ, List.getElem_cons_zero, List.setIfInBounds_toArray, List.set_cons_zero, List.set_cons_succ])
          refine wpAnyH_take (i := 1) (v := ?_) rfl (by kernel_rfl) (by kernel_rfl) (by kernel_rfl) (fun _ _ _ h => h) (Or.inl ⟨by rfl, ?_⟩) hHeld ?_
          rotate_left
          · intro w hSw; (try dsimp only at hSw); go_simp
            all_goals (with_reducible rfl)
          (try simp only [Act.put, List.getElem_toArray, List.getElem_cons_succ, List.getElem_cons_zero, List.setIfInBounds_toArray, List.set_cons_zero, List.set_cons_succ])
          refine wpAnyH_take (i := 2) (v := ?_) rfl (by kernel_rfl) (by kernel_rfl) (by kernel_rfl) (fun _ _ _ h => h) (Or.inl ⟨by rfl, ?_⟩) hHeld ?_
          rotate_left
          · intro w hSw; (try dsimp only at hSw); go_simp
            all_goals (with_reducible rfl)
          (try simp only [Act.put, List.getElem_toArray, List.getElem_cons_succ, List.getElem_cons_zero, List.setIfInBounds_toArray, List.set_cons_zero, List.set_cons_succ])
          refine wpAnyH_take (i := 3) (v := ?_) rfl (by kernel_rfl) (by kernel_rfl) (by kernel_rfl) (fun _ _ _ h => h) (Or.inl ⟨by rfl, ?_⟩) hHeld ?_
          rotate_left
          · intro w hSw; (try dsimp only at hSw); go_simp
            all_goals (with_reducible rfl)
          (try simp only [Act.put, List.getElem_toArray, List.getElem_cons_succ, List.getElem_cons_zero, List.setIfInBounds_toArray, List.set_cons_zero, List.set_cons_succ])
          refine wpAnyH_take (i := 4) (v := ?_) rfl (by kernel_rfl) (by kernel_rfl) (by kernel_rfl) (fun _ _ _ h => h) (Or.inl ⟨by rfl, ?_⟩) hHeld ?_
          rotate_left
          · intro w hSw; (try dsimp only at hSw); go_simp
            all_goals (with_reducible rfl)
          (try simp only [Act.put, List.getElem_toArray, List.getElem_cons_succ, List.getElem_cons_zero, List.setIfInBounds_toArray, List.set_cons_zero, List.set_cons_succ])
          refine wpAnyH_take (i := 5) (v := ?_) rfl (by kernel_rfl) (by kernel_rfl) (by kernel_rfl) (fun _ _ _ h => h) (Or.inl ⟨by rfl, ?_⟩) hHeld ?_
          rotate_left
          · intro w hSw; (try dsimp only at hSw); go_simp
            all_goals (with_reducible rfl)
          (try simp only [Act.put, List.getElem_toArray, List.getElem_cons_succ, List.getElem_cons_zero, List.setIfInBounds_toArray, List.set_cons_zero, List.set_cons_succ])
          refine wpAnyH_ready (rs := [6]) (by kernel_rfl) (by simp) ?_
          refine AllReadyH.cons rfl (fun K hK => ?_) AllReadyH.nil
          go_simp
          go_wp2_with (go_at_call 12; refine hte.mono ?_; rintro _ w5 ⟨rfl, hb5⟩)
          have u1 := (hb5.cell (p := ⟨bt, n, none⟩) (cell_lt cp)).trans cp
          have u2 := (hb5.cell (p := ⟨bt + 1, n, none⟩) (cell_lt cq)).trans cq
          have hgo5 := hgo w5 hb5
          
          refine hK.out _ _ (⟨u1, u2⟩) (fun hHeld => ?_)
          clear hK K
          (try simp only [Act.put, List.getElem_toArray, List.getElem_cons_succ, List.getElem_cons_zero, List.setIfInBounds_toArray, List.set_cons_zero, List.set_cons_succ])
          refine wpAnyH_take (i := 7) (v := ?_) rfl (by kernel_rfl) (by kernel_rfl) (by kernel_rfl) (fun _ _ _ h => h) (Or.inl ⟨by rfl, ?_⟩) hHeld ?_
          rotate_left
          · intro w hSw; (try dsimp only at hSw); go_simp
            all_goals (with_reducible rfl)
          (try simp only [Act.put, List.getElem_toArray, List.getElem_cons_succ, List.getElem_cons_zero, List.setIfInBounds_toArray, List.set_cons_zero, List.set_cons_succ])
          refine wpAnyH_take (i := 8) (v := ?_) rfl (by kernel_rfl) (by kernel_rfl) (by kernel_rfl) (fun _ _ _ h => h) (Or.inl ⟨by rfl, ?_⟩) hHeld ?_
          rotate_left
          · intro w hSw; (try dsimp only at hSw); go_simp
            all_goals (with_reducible rfl)
          (try simp only [Act.put, List.getElem_toArray, List.getElem_cons_succ, List.getElem_cons_zero, List.setIfInBounds_toArray, List.set_cons_zero, List.set_cons_succ])
          refine wpAnyH_take (i := 9) (v := ?_) rfl (by kernel_rfl) (by kernel_rfl) (by kernel_rfl) (fun _ _ _ h => h) (Or.inl ⟨by rfl, ?_⟩) hHeld ?_
          rotate_left
          · intro w hSw; (try dsimp only at hSw); go_simp
            all_goals (with_reducible rfl)
          (try simp only [Act.put, List.getElem_toArray, List.getElem_cons_succ, List.getElem_cons_zero, List.setIfInBounds_toArray, List.set_cons_zero, List.set_cons_succ])
          refine wpAnyH_take (i := 10) (v := ?_) rfl (by kernel_rfl) (by kernel_rfl) (by kernel_rfl) (fun _ _ _ h => h) (Or.inl ⟨by rfl, ?_⟩) hHeld ?_
          rotate_left
          · intro w hSw; (try dsimp only at hSw); go_simp
            all_goals (with_reducible rfl)
          (try simp only [Act.put, List.getElem_toArray, List.getElem_cons_succ, List.getElem_cons_zero, List.setIfInBounds_toArray, List.set_cons_zero, List.set_cons_succ])
          refine wpAnyH_take (i := 11) (v := ?_) rfl (by kernel_rfl) (by kernel_rfl) (by kernel_rfl) (fun _ _ _ h => h) (Or.inl ⟨by rfl, ?_⟩) hHeld ?_
          rotate_left
          · intro w hSw; (try dsimp only at hSw); go_simp
            all_goals (with_reducible rfl)
          (try simp only [Act.put, List.getElem_toArray, List.getElem_cons_succ, List.getElem_cons_zero, List.setIfInBounds_toArray, List.set_cons_zero, List.set_cons_succ])
          refine wpAnyH_take (i := 12) (v := ?_) rfl (by kernel_rfl) (by kernel_rfl) (by kernel_rfl) (fun _ _ _ h => h) (Or.inl ⟨by rfl, ?_⟩) hHeld ?_
          rotate_left
          · intro w hSw; (try dsimp only at hSw); go_simp
            all_goals (with_reducible rfl)
          (try simp only [Act.put, List.getElem_toArray, List.getElem_cons_succ, List.getElem_cons_zero, List.setIfInBounds_toArray, List.set_cons_zero, List.set_cons_succ])
          refine wpAnyH_take (i := 13) (v := ?_) rfl (by kernel_rfl) (by kernel_rfl) (by kernel_rfl) (fun _ _ _ h => h) (Or.inl ⟨by rfl, ?_⟩) hHeld ?_
          rotate_left
          · intro w hSw; (try dsimp only at hSw); go_simp
            all_goals (with_reducible rfl)
          (try simp only [Act.put, List.getElem_toArray, List.getElem_cons_succ, List.getElem_cons_zero, List.setIfInBounds_toArray, List.set_cons_zero, List.set_cons_succ])
          refine wpAnyH_take (i := 14) (v := ?_) rfl (by kernel_rfl) (by kernel_rfl) (by kernel_rfl) (fun _ _ _ h => h) (Or.inl ⟨by rfl, ?_⟩) hHeld ?_
          rotate_left
          · intro w hSw; (try dsimp only at hSw); go_simp
            all_goals (with_reducible rfl)
          (try simp only [Act.put, List.getElem_toArray, List.getElem_cons_succ, List.getElem_cons_zero, List.setIfInBounds_toArray, List.set_cons_zero, List.set_cons_succ])
          refine wpAnyH_ready (rs := [15]) (by kernel_rfl) (by simp) ?_
          refine AllReadyH.cons rfl (fun K hK => ?_) AllReadyH.nil
          go_simp
          go_wp2_with (go_at_call 20; refine hgo5.mono ?_; rintro _ w6 ⟨rfl, hb6⟩)
          have n1 := (hb6.cell (p := ⟨bt, n, none⟩) (cell_lt u1)).trans u1
          have n2 := (hb6.cell (p := ⟨bt + 1, n, none⟩) (cell_lt u2)).trans u2
          
          refine hK.out _ _ (⟨n1, n2⟩) (fun hHeld => ?_)
          clear hK K
          (try simp only [Act.put, List.getElem_toArray, List.getElem_cons_succ, List.getElem_cons_zero, List.setIfInBounds_toArray, List.set_cons_zero, List.set_cons_succ])
          refine wpAnyH_take (i := 16) (v := ?_) rfl (by kernel_rfl) (by kernel_rfl) (by kernel_rfl) (fun _ _ _ h => h) (Or.inl ⟨by rfl, ?_⟩) hHeld ?_
          rotate_left
          · intro w hSw; (try dsimp only at hSw); go_simp
            all_goals (with_reducible rfl)
          (try simp only [Act.put, List.getElem_toArray, List.getElem_cons_succ, List.getElem_cons_zero, List.setIfInBounds_toArray, List.set_cons_zero, List.set_cons_succ])
          refine wpAnyH_take (i := 17) (v := ?_) rfl (by kernel_rfl) (by kernel_rfl) (by kernel_rfl) (fun _ _ _ h => h) (Or.inl ⟨by rfl, ?_⟩) hHeld ?_
          rotate_left
          · intro w hSw; (try dsimp only at hSw); go_simp
            all_goals (with_reducible rfl)
          (try simp only [Act.put, List.getElem_toArray, List.getElem_cons_succ, List.getElem_cons_zero, List.setIfInBounds_toArray, List.set_cons_zero, List.set_cons_succ])
          refine wpAnyH_done (by kernel_rfl) ?_ _
          clear hHeld hte hgo hgo5
          have hbr6 : Below wr.heap.size wr w6 := (⟨hb5.os, hb5.tape, hb5.output, hb5.size, hb5.block⟩ : Below wr.heap.size wr w5).trans (hb6.mono hb5.size)
          go_wp2
          go_roundw
          case rel => exact ⟨n + 1, by omega, by go_num, hbn.trans (hbr6.mono hbn.size)⟩
          case measure => simp [RowKit.intOf]; omega
        · have i1 : ¬ (n : Int) < 3 := by omega
          go_wp2_with (go_at_call 16; refine (cK _).mono ?_; rintro _ w9 ⟨rfl, hb9⟩)
          go_ret
          exact ⟨rfl, (hbe.trans (hbn.mono hbe.size)).trans (hb9.mono (by have := hbe.size; have := hbn.size; omega))⟩

end Go.Proofs.YtgckcnnnblggbaaGreat
