/- Texts of this claim, one behind the other: ReQ. -/
import Derived.Test.YtgckcnnnblggbaaGreatMe45
import Derived.Test.YtgckcnnnblggbaaGreatMe46
set_option linter.unusedSimpArgs false
set_option linter.unusedVariables false
/- DiskMeanwhile: the walk. (printed by gen/dmean.py) -/
namespace Go.Proofs.YtgckcnnnblggbaaGreat
open Go.RowKit Go.Maps Go.Shelf
attribute [local go_sem] Oper.semAt_some

theorem PairO.files2lo {F G : Nat → Prop} {w : World} {v1 v2 : Option Addr} {o1 o2 : Option DSt} {N : Nat} (h : PairO F G w v1 o1 v2 o2) (hok : ∀ s, o2 = some s → s.Ok N) (hN : N < maxList) :
    Calls Tryz.prog 18 #[.pointer v2] w fun e w' => ∃ fa fc, e = .returned (.slice fa (allO o2).length fc) ∧ FilesRd w' fa (allO o2) ∧ (allO o2 ≠ [] → ∀ y, fa = some y → w.heap.size ≤ y.block) ∧ Below w.heap.size w w' := by
  have hmx : maxList = 4194304 := rfl
  obtain ⟨rfl, rfl, rfl, rfl⟩ | ⟨s1, s2, p, r, rfl, rfl, rfl, rfl, ht⟩ := h.cases
  · exact (rFiles_nil w).mono fun e w' ⟨fa, fc, k1, k2, k3⟩ => ⟨fa, fc, k1, k2, fun h => absurd rfl h, k3⟩
  · obtain ⟨R2, h⟩ := ht.rat
    refine (rFiles_row h (hok _ rfl) (by omega)).mono ?_
    rintro _ w1 ⟨v, rfl, hF, hb⟩
    obtain ⟨a, c, rfl, _, hA⟩ := hF.arg
    refine ⟨a, c, rfl, hA.rd, fun _ y e => ?_, hb⟩
    subst e
    obtain ⟨us, _, hrow, _⟩ := hF
    exact (hrow.lt y.block rfl).1

set_option maxRecDepth 100000 in
set_option maxHeartbeats 16000000 in
theorem diskMeanwhile_walk {w : World} {cap : Int} {fa aa : Option Addr} {fc ac : Nat} {L : List (List UInt8 × List UInt8)} {xs : List AStep}
    (hA : FilesArg w fa L) (hxs : AStepsArg w aa xs) (hxo : ∀ x ∈ xs, x.Ok)
    (hLn : ∀ p ∈ L, p.1.length ≤ maxLen) (hLM : ∀ p ∈ L, p.2.length ≤ 1048576) (hbulk : L.length + xs.length ≤ 1048574) :
    Calls Tryz.prog 4 #[.agg #[.int .i64 cap, .slice fa L.length fc], .slice aa xs.length ac] w fun e w' => e = .returned (.bool true) ∧ Below w.heap.size w w' := by
  have hmx : maxList = 4194304 := rfl
  have hmax : maxLen = 9223372036854775807 := rfl
  have hmf : maxFile = 1099511627776 := rfl
  refine (callsIn_wide (n := 6)).1 ?_
  refine callsIn_of_wp_marks Tryz.func4 rfl trivial ?_ rfl
  simp only [Tryz.ntmps4, List.size_toArray, List.length_cons, List.length_nil, Nat.reduceAdd, Nat.reduceSub, Array.replicate_succ, Array.replicate_zero, List.push_toArray, List.append_toArray, List.nil_append, List.cons_append]
  refine wpIn_wide.2 ?_
  obtain ⟨w0, hw0⟩ : ∃ w0, ((w.alloc (.cells #[.int .i64 cap, .slice fa L.length fc] 24)).alloc (.cells #[.slice aa xs.length ac] 25)).alloc (.cells #[.bool false] 4) = w0 := ⟨_, rfl⟩
  have hb0 : Below w.heap.size w w0 := by rw [← hw0]; exact ((below_alloc w _).alloc (by simp) _).alloc (by simp; omega) _
  have hz0 : w0.heap.size = w.heap.size + 1 + 1 + 1 := by rw [← hw0]; simp
  have b2 : w0.heap[w.heap.size]? = some (.cells #[.int .i64 cap, .slice fa L.length fc] 24 (0, 0)) := by rw [← hw0]; exact (Below.heap_alloc _ _ _ (by simp; omega)).trans ((Below.heap_alloc _ _ _ (by simp)).trans (World.alloc_heap_new w _))
  have b3 : Boxed w0 (w.heap.size + 1) 25 (.slice aa xs.length ac) := by rw [← hw0]; have := (Boxed.new (w.alloc (.cells #[.int .i64 cap, .slice fa L.length fc] 24)) 25 (.slice aa xs.length ac)).alloc (.cells #[.bool false] 4); rwa [World.size_alloc] at this
  have b4 : Boxed w0 (w.heap.size + 1 + 1) 4 (.bool false) := by rw [← hw0]; have := Boxed.new ((w.alloc (.cells #[.int .i64 cap, .slice fa L.length fc] 24)).alloc (.cells #[.slice aa xs.length ac] 25)) 4 (.bool false); rwa [World.size_alloc, World.size_alloc] at this
  have c0 := cell_of_heap b2 (i := 0) (v := .int .i64 cap) (by rfl)
  have c1 := cell_of_heap b2 (i := 1) (v := .slice fa L.length fc) (by rfl)
  have hwlt : w.heap.size < w0.heap.size := by omega
  have HZ0 := Lib.hid hz0
  clear hz0
  have cK := known_any
  have cN := num_any
  have hs1 := start1 (cap := cap) (c := fc) (hA.below hb0) (by omega) (fun p hp => by have := hLM p hp; omega) hLn
  have hst := startO_ok (cap := cap) (L := L) (fun p hp => by have := hLM p hp; omega)
  have hnf := seq_nil
  clear b2
  go_upto_region 3 with (first
    | rw [hw0]
    | rw [hw2]
    | rw [hw4]
    | (go_at_call 6; refine hs1.mono ?_; rintro _ w1 ⟨q1, rfl, hh1, hb1⟩; obtain ⟨w2, hw2⟩ : ∃ w2, w1.alloc (.cells #[.pointer q1] 27) = w2 := ⟨_, rfl⟩; have hb12 : Below w1.heap.size w1 w2 := (by rw [← hw2]; exact below_alloc _ _); have hb02 : Below w0.heap.size w0 w2 := hb1.trans (hb12.mono hb1.size); have c02 := (hb02.cell (p := ⟨w.heap.size, 0, none⟩) hwlt).trans c0; have c12 := (hb02.cell (p := ⟨w.heap.size, 1, none⟩) hwlt).trans c1; have b52 : Boxed w2 w1.heap.size 27 (.pointer q1) := (by rw [← hw2]; exact Boxed.new _ _ _); have HZ2 := Lib.hid (show w2.heap.size = w1.heap.size + 1 by rw [← hw2]; simp); have hs2 := start2 (cap := cap) (c := fc) ((hA.below hb0).below hb02) (by omega) (fun p hp => by have := hLM p hp; omega) hLn)
    | (go_at_call 7; refine hs2.mono ?_; rintro _ w3 ⟨q2, rfl, hh2, hb3⟩; obtain ⟨w4, hw4⟩ : ∃ w4, w3.alloc (.cells #[.pointer q2] 31) = w4 := ⟨_, rfl⟩))
  have hs01 := hb1.size
  have hs02 := hb02.size
  have hb34 : Below w3.heap.size w3 w4 := by rw [← hw4]; exact below_alloc _ _
  have HZ4 := Lib.hid (show w4.heap.size = w3.heap.size + 1 by rw [← hw4]; simp)
  have hlt34 : w3.heap.size < w4.heap.size := by have := HZ4.out; omega
  have b74 : Boxed w4 w3.heap.size 31 (.pointer q2) := by rw [← hw4]; exact Boxed.new _ _ _
  have hs23 := hb3.size
  have hb24 : Below w2.heap.size w2 w4 := hb3.trans (hb34.mono hs23)
  have hb04 : Below w0.heap.size w0 w4 := hb02.trans (hb24.mono hs02)
  have b54 : Boxed w4 w1.heap.size 27 (.pointer q1) := boxed_below b52 hb24 b52.lt
  obtain ⟨F0, G0, hP3, hF0, hG0'⟩ := PairO.join2 hh1 (hb12.trans (hb3.mono hb12.size)) hh2 (fun _ h => h.elim) hs01 hb12.size
  have hG0 : ∀ b, G0 b → w0.heap.size ≤ b ∧ b < w3.heap.size := fun b hb => ⟨(hG0' b hb).1.resolve_left (fun h => h.elim), (hG0' b hb).2⟩
  have hP4 := hP3.below hb34
  clear hG0' hh1 hh2 hs1 hs2 c0 c1 c02 c12 hw0 hw2 hw4 hP3
  obtain ⟨o0, ho0⟩ : ∃ o, startO cap L = o := ⟨_, rfl⟩
  rw [ho0] at hP4 hst ⊢
  clear ho0
  have c5 := b54.cell
  have c7 := b74.cell
  have ee : (startE o0 != startE o0) = false := by simp
  go_cut [40] from 30 to 40 (fun s40 wx => s40 = .bool false ∧ w4 = wx)
  case first =>
    cases o0 with
    | none =>
      obtain ⟨rfl, rfl⟩ : q1 = none ∧ q2 = none := ⟨hP4.1, hP4.2⟩
      go_wp2_with (go_at_call 8; refine (cN _ _).mono ?_; rintro _ wn ⟨rfl, rfl⟩)
      go_meet
      case rel => exact ⟨rfl, rfl⟩
    | some s0 =>
      obtain ⟨p, r, rfl, rfl, ht⟩ := hP4
      go_wp2_with (go_at_call 8; refine (cN _ _).mono ?_; rintro _ wn ⟨rfl, rfl⟩)
      go_meet
      case rel => exact ⟨rfl, rfl⟩
  case rest =>
  obtain ⟨h40, hwx⟩ := hcut
  subst h40 hwx
  have hrf := hP4.files2lo hst.1 (by omega)
  have hfl := allO_len (o := o0) hst.1 (by omega)
  obtain ⟨LF, hLF⟩ : ∃ LF, allO o0 = LF := ⟨_, rfl⟩
  rw [hLF] at hrf hfl
  go_wp2_with (first
    | rw [hw6]
    | (go_at_call 18; refine hrf.mono ?_; rintro _ w5 ⟨ra, rc, rfl, hrd5, hralo, hb45⟩; obtain ⟨w6, hw6⟩ : ∃ w6, w5.alloc (.cells #[.slice ra LF.length rc] 22) = w6 := ⟨_, rfl⟩; have hb56 : Below w5.heap.size w5 w6 := (by rw [← hw6]; exact below_alloc _ _); have HZ6 := Lib.hid (show w6.heap.size = w5.heap.size + 1 by rw [← hw6]; simp); have b96 : Boxed w6 w5.heap.size 22 (.slice ra LF.length rc) := (by rw [← hw6]; exact Boxed.new _ _ _); have hb46 : Below w4.heap.size w4 w6 := hb45.trans (hb56.mono hb45.size); have b56 := boxed_below b54 hb46 b54.lt; have c56 := b56.cell)
    | (go_at_call 19; refine (All_any q1 w6).mono ?_; rintro _ w7 ⟨rfl, hw7⟩; have hb67 : Below w6.heap.size w6 w7 := (by rw [hw7]; exact below_alloc _ _); have HZ7 := Lib.hid (show w7.heap.size = w6.heap.size + 1 by rw [hw7]; simp); have hbd7 : Boxed w7 w6.heap.size 27 (.pointer q1) := (by rw [hw7]; exact Boxed.new _ _ _); clear hw7))
  obtain ⟨W0, hW0⟩ : ∃ W0, w7.alloc (.cells #[.int .i64 0] 3) = W0 := ⟨_, rfl⟩
  rw [hW0]
  have hz0 := HZ0.out
  have hz2 := HZ2.out
  have hz4 := HZ4.out
  have hz6 := HZ6.out
  have hz7 := HZ7.out
  have hb7W : Below w7.heap.size w7 W0 := by rw [← hW0]; exact below_alloc _ _
  have hzW : W0.heap.size = w7.heap.size + 1 := by rw [← hW0]; simp
  have b11 : Boxed W0 w7.heap.size 3 (.int .i64 0) := by rw [← hW0]; exact Boxed.new _ _ _
  have hs45 := hb45.size
  have hb6W : Below w6.heap.size w6 W0 := hb67.trans (hb7W.mono hb67.size)
  have hb5W : Below w5.heap.size w5 W0 := hb56.trans (hb6W.mono hb56.size)
  have hb4W : Below w4.heap.size w4 W0 := hb45.trans (hb5W.mono hb45.size)
  have hb0W : Below w0.heap.size w0 W0 := hb04.trans (hb4W.mono hb04.size)
  have hPW := hP4.below hb4W
  have p3 := boxed_below b3 hb0W (by omega)
  have p4 := boxed_below b4 hb0W (by omega)
  have p5 := boxed_below b54 hb4W (by omega)
  have p7 := boxed_below b74 hb4W (by omega)
  have p9 := boxed_below b96 hb6W (by omega)
  have pd := boxed_below hbd7 hb7W (by omega)
  have hrdW := hrd5.below hb5W
  have hF1 : ∀ Wx, Below W0.heap.size W0 Wx → Calls Tryz.prog 14 #[.pointer q1] Wx fun e w' => ∃ v cs, e = .returned v ∧ FilesAt w' Wx.heap.size (Wx.heap.size + 1) v cs LF ∧ Below Wx.heap.size Wx w' := fun Wx hW => by rw [← hLF]; exact (hPW.below hW).files1 hst.1 (by omega)
  have hLo := hb0.size
  clear hw6 hW0 b3 b4 b54 b74 b96 hbd7 b56 c56 b52 hP4 c5 c7 hrf
  have HZS := Lib.hid (And.intro HZ0.out (And.intro HZ2.out (And.intro HZ4.out (And.intro HZ6.out (And.intro HZ7.out hzW)))))
  clear hz0 hz2 hz4 hz6 hz7 hzW
  refine (wpIn_wide (n := 6)).1 ?_
  refine wpIn_rangeFunc_calm rfl (by omega) (gf := 69) (lb := #[.pointer (some ⟨w6.heap.size, 0, none⟩)]) rfl trivial (enters_of Tryz.func69 (by kernel_rfl) rfl)
    (all1_calm 5 (by omega) hfl hF1 pd) (fun h k => h.trans k) (fun Wx o o' hl => KpS.putLoop Wx _ hl) (Below.refl _ _) (fun _ => rfl)
    (fun pre Wx => ∃ F G, PairO F G Wx q1 (stepsO o0 xs (min pre.length xs.length)) q2 (stepsO o0 xs (min pre.length xs.length)) ∧ (∀ b, F b → ((w0.heap.size ≤ b ∧ b < w1.heap.size) ∨ (w2.heap.size ≤ b ∧ b < w3.heap.size) ∨ W0.heap.size + 2 ≤ b) ∧ b < Wx.heap.size) ∧ (∀ b, G b → (w0.heap.size ≤ b ∧ b ≠ w7.heap.size ∧ b ≠ W0.heap.size + 1) ∧ b < Wx.heap.size) ∧
      Chg (fun b => ((w0.heap.size ≤ b ∧ b < w1.heap.size) ∨ (w2.heap.size ≤ b ∧ b < w3.heap.size) ∨ W0.heap.size + 2 ≤ b) ∨ b = w7.heap.size) W0 Wx ∧ Boxed Wx w7.heap.size 3 (.int .i64 pre.length))
    ?_ ?_ ?_ ?_ ?_ ?_ ?_
  case refine_1 =>
    rintro s A B ⟨F, G, g1, g2, g3, g4, g5⟩ hg
    have hz := hg.size
    have hcg : Chg (fun _ => False) A B := Chg.of_grown hg (fun k e => by cases e)
    exact ⟨F, G, g1.kept hcg (fun _ _ h => h) (fun _ _ h => h), fun b hb => ⟨(g2 b hb).1, by have := (g2 b hb).2; omega⟩, fun b hb => ⟨(g3 b hb).1, by have := (g3 b hb).2; omega⟩, g4.trans hcg (fun _ h _ => h.elim), boxed_chg g5 hcg (fun h => h)⟩
  case refine_2 =>
    rintro s A o o' ⟨F, G, g1, g2, g3, g4, g5⟩ hl
    obtain ⟨hz0, hz2, hz4, hz6, hz7, hzW⟩ := HZS.out
    have hcg : Chg (fun b => b = W0.heap.size + 1) A (A.putObj (W0.heap.size + 1) (.loop o')) := ⟨rfl, rfl, rfl, by simp [World.putObj], fun k _ hk => World.putObj_heap_other hk⟩
    have hzz : (A.putObj (W0.heap.size + 1) (.loop o')).heap.size = A.heap.size := by simp [World.putObj]
    exact ⟨F, G, g1.notLoop (fun h => by have := (g2 _ h).1; omega) (fun h => (g3 _ h).1.2.2 rfl) _, fun b hb => ⟨(g2 b hb).1, by rw [hzz]; exact (g2 b hb).2⟩, fun b hb => ⟨(g3 b hb).1, by rw [hzz]; exact (g3 b hb).2⟩, g4.trans hcg (fun b hb hlt => by omega), boxed_chg g5 hcg (by omega)⟩
  case refine_3 =>
    obtain ⟨hz0, hz2, hz4, hz6, hz7, hzW⟩ := HZS.out
    refine ⟨F0, G0, ?_, fun b hb => ⟨?_, ?_⟩, fun b hb => ⟨?_, ?_⟩, Chg.refl _ _, b11⟩
    · rw [show min ([] : List (Fin LF.length)).length xs.length = 0 by simp]; exact hPW
    · rcases hF0 b hb with h | h
      · exact .inl h
      · exact .inr (.inl ⟨by omega, h.2⟩)
    · rcases hF0 b hb with h | h <;> omega
    · have := hG0 b hb; exact ⟨this.1, by omega, by omega⟩
    · have := hG0 b hb; omega
  case refine_5 => intro l x Wx K hK; simp only [itemA]; gi_wp2; exact hK
  case refine_6 =>
    rintro l pre x Wx ⟨F, G, g1, g2, g3, g4, g5⟩ hpre hWx
    obtain ⟨hz0, hz2, hz4, hz6, hz7, hzW⟩ := HZS.out
    have hx1 := fin_prefix hpre
    have hpl : pre.length < LF.length := by rw [← hx1]; exact x.2
    have hne : LF ≠ [] := List.ne_nil_of_length_pos (by omega)
    have hone : o0 ≠ none := fun e => by rw [e] at hLF; exact hne hLF.symm
    obtain ⟨y, hy⟩ : ∃ y, LF[pre.length]? = some y := ⟨LF[pre.length]'hpl, by simp⟩
    have hxy : LF[x] = y := by
      have h : LF[x.1]? = some LF[x] := by simp
      exact Option.some.inj (h.symm.trans ((congrArg (fun k => LF[k]?) hx1).trans hy))
    obtain ⟨fbk, fof, hra, hcells⟩ := hrd5 hne
    have hfl4 := hralo hne _ hra
    dsimp only at hfl4
    subst hra
    obtain ⟨n1, ua, uc, u1, _⟩ := hcells pre.length y hy
    have hfl5 : fbk < w5.heap.size := cell_lt n1
    have hlo1 := hb1.size
    have m1 := g4.cell ((hb5W.cell (p := ⟨fbk, fof + pre.length * 2, none⟩) hfl5).trans n1) (by show ¬ (((w0.heap.size ≤ fbk ∧ fbk < w1.heap.size) ∨ (w2.heap.size ≤ fbk ∧ fbk < w3.heap.size) ∨ W0.heap.size + 2 ≤ fbk) ∨ fbk = w7.heap.size); omega)
    have m2 := g4.cell ((hb5W.cell (p := ⟨fbk, fof + pre.length * 2 + 1, none⟩) hfl5).trans u1) (by show ¬ (((w0.heap.size ≤ fbk ∧ fbk < w1.heap.size) ∨ (w2.heap.size ≤ fbk ∧ fbk < w3.heap.size) ∨ W0.heap.size + 2 ≤ fbk) ∨ fbk = w7.heap.size); omega)
    have k9 := (boxed_chg p9 g4 (by omega)).cell
    have k3 := (boxed_chg p3 g4 (by omega)).cell
    have k5 := (boxed_chg p5 g4 (by omega)).cell
    have k7 := (boxed_chg p7 g4 (by omega)).cell
    have k11 := g5.cell
    have z0 : decide ((LF.length : Int) ≤ (pre.length : Int)) = false := by simp; omega
    have j0 : (0 : Int) ≤ (pre.length : Int) := by omega
    have j1 : (pre.length : Int) < (LF.length : Int) := by omega
    have y1 : (y.1 == y.1) = true := by simp
    have y2 : (y.1 != y.1) = false := by simp
    have y3 : ((y.2.length : Int) == (y.2.length : Int)) = true := by simp
    have y4 : ((y.2.length : Int) != (y.2.length : Int)) = false := by simp
    have hdr := below_drew1 Wx
    have hg1d := g1.below hdr
    obtain ⟨hokS, hwhS, hwrS, hneS⟩ := stepsO_ok hst.1 hst.2.1 hst.2.2 xs (min pre.length xs.length) (by omega)
    have hW0x := g4.size
    simp only [Fin.getElem_fin] at hxy
    rw [hxy]
    unfold sv at m1 ⊢
    have HG := Lib.hid (And.intro g1 (And.intro g2 (And.intro g3 (And.intro g4 (And.intro g5 hneS)))))
    clear hz0 hz2 hz4 hz6 hz7 hzW hxy hy hcells n1 u1 hwhS hwrS
    by_cases hm : pre.length < xs.length
    · obtain ⟨sx, hsx⟩ : ∃ sx, xs[pre.length]? = some sx := ⟨xs[pre.length]'hm, by simp⟩
      obtain ⟨xb, xo, haa, hcs⟩ := hxs (fun e => by rw [e] at hm; simp at hm)
      subst haa
      obtain ⟨da, ka, dc, kc, hcell0, hnil, hrow0, _⟩ := hcs pre.length sx hsx
      have hbwx : ∀ b, b < w.heap.size → Wx.heap[b]? = w.heap[b]? := fun b hb => (HG.out.2.2.2.1.block b (by have := hb0W.size; omega) (by have := HZS.out; omega)).trans ((hb0W.block b (by omega)).trans (hb0.block b hb))
      have hcell : ∀ (j : Nat) u, (encA sx da dc ka kc)[j]? = some u → Wx.cell? ⟨xb, xo + pre.length * 10 + j, none⟩ = some u := fun j u hu => (World.cell?_of_block (a := ⟨xb, xo + pre.length * 10 + j, none⟩) (hbwx xb (cell_lt (hcell0 j u hu)))).trans (hcell0 j u hu)
      have hxbl : xb < w.heap.size := cell_lt (hcell0 0 (.int .i64 sx.kind) rfl)
      have h0 : Wx.cell? ⟨xb, xo + pre.length * 10, none⟩ = some (.int .i64 sx.kind) := by have := hcell 0 (.int .i64 sx.kind) rfl; simpa using this
      have h1 := hcell 1 (.int .i64 sx.who) rfl
      have h2 := hcell 2 (.string ⟨sx.name.toArray⟩) rfl
      have h3 := hcell 3 (.string ⟨sx.dst.toArray⟩) rfl
      have h4 := hcell 4 (.int .i64 sx.at_) rfl
      have h5 := hcell 5 (.int .i64 sx.n) rfl
      have h6 := hcell 6 (.slice da sx.data.length dc) rfl
      have h7 := hcell 7 (.int .i64 sx.sn) rfl
      have h8 := hcell 8 (.slice ka sx.keep.length kc) rfl
      have h9 := hcell 9 (.int .i64 sx.st) rfl
      have hrowx : RowAt Wx.drew da (sx.data.map bv) := fun hx => by
        obtain ⟨b, off, e, hc⟩ := hrow0 hx
        exact ⟨b, off, e, fun j u hu => (World.cell?_of_block (a := ⟨b, off + j, none⟩) (hbwx b (cell_lt (hc j u hu)))).trans (hc j u hu)⟩
      have hdl := bytes_lt hrow0
      have hmin : min pre.length xs.length = pre.length := by omega
      rw [hmin] at hg1d hokS
      have hdo := asks_law hg1d (lo := w0.heap.size) (ka := ka) (kc := kc) (hxo sx (List.mem_of_getElem? hsx)) hrowx hnil (fun y e hd => by have := hdl y e hd; omega) hokS (by omega) (by have := hb0W.size; show w0.heap.size ≤ Wx.heap.size; omega) (fun b hb => ⟨by have := (HG.out.2.1 b hb).1; have := HZS.out; have := hb1.size; have := hb02.size; have := hb0W.size; omega, (HG.out.2.1 b hb).2⟩) (fun b hb => ⟨(HG.out.2.2.1 b hb).1.1, (HG.out.2.2.1 b hb).2⟩)
      unfold encA at hdo
      have hcl := (callsIn_wide (n := 6 - 1 - 1 - 1)).2 hdo
      have jm : (pre.length : Int) < (xs.length : Int) := by omega
      have HSX := Lib.hid (And.intro hsx hbwx)
      clear hdo hsx hbwx hcell hcell0 hrow0 hrowx hcs hdl hnil hg1d
      gi_wp2_with fail
      refine wpIn_region_heldR (S := fun w' => w'.cell? ⟨w7.heap.size, 0, none⟩ = some (.int .i64 (pre.length : Int)) ∧ w'.cell? ⟨w.heap.size + 1, 0, none⟩ = some (.slice (some ⟨xb, xo, none⟩) xs.length ac) ∧ w'.cell? ⟨w1.heap.size, 0, none⟩ = some (.pointer q1) ∧ w'.cell? ⟨w3.heap.size, 0, none⟩ = some (.pointer q2) ∧ w'.cell? ⟨xb, xo + pre.length * 10, none⟩ = some (.int .i64 sx.kind) ∧ w'.cell? ⟨xb, xo + pre.length * 10 + 1, none⟩ = some (.int .i64 sx.who) ∧ w'.cell? ⟨xb, xo + pre.length * 10 + 2, none⟩ = some (.string ⟨sx.name.toArray⟩) ∧ w'.cell? ⟨xb, xo + pre.length * 10 + 3, none⟩ = some (.string ⟨sx.dst.toArray⟩) ∧ w'.cell? ⟨xb, xo + pre.length * 10 + 4, none⟩ = some (.int .i64 sx.at_) ∧ w'.cell? ⟨xb, xo + pre.length * 10 + 5, none⟩ = some (.int .i64 sx.n) ∧ w'.cell? ⟨xb, xo + pre.length * 10 + 6, none⟩ = some (.slice da sx.data.length dc) ∧ w'.cell? ⟨xb, xo + pre.length * 10 + 7, none⟩ = some (.int .i64 sx.sn) ∧ w'.cell? ⟨xb, xo + pre.length * 10 + 8, none⟩ = some (.slice ka sx.keep.length kc) ∧ w'.cell? ⟨xb, xo + pre.length * 10 + 9, none⟩ = some (.int .i64 sx.st)) (by kernel_rfl) (by kernel_rfl) ⟨k11, k3, k5, k7, h0, h1, h2, h3, h4, h5, h6, h7, h8, h9⟩ (fun hHeld => ?_)
      refine wpInS.take (i := 0) (v := ?_) rfl rfl (by kernel_rfl) (by kernel_rfl) (by kernel_rfl) (fun _ _ _ h => h) (Or.inl ⟨by rfl, ?_⟩) (fun _ => rfl) hHeld ?_
      rotate_left
      · intro w hSw; (try dsimp only at hSw); go_simp
        all_goals (with_reducible rfl)
      (try simp only [Act.put, List.getElem_toArray, List.getElem_cons_succ, List.getElem_cons_zero, List.setIfInBounds_toArray, List.set_cons_zero, List.set_cons_succ])
      refine wpInS.take (i := 1) (v := ?_) rfl rfl (by kernel_rfl) (by kernel_rfl) (by kernel_rfl) (fun _ _ _ h => h) (Or.inl ⟨by rfl, ?_⟩) (fun _ => rfl) hHeld ?_
      rotate_left
      · intro w hSw; (try dsimp only at hSw); go_simp
        all_goals (with_reducible rfl)
      (try simp only [Act.put, List.getElem_toArray, List.getElem_cons_succ, List.getElem_cons_zero, List.setIfInBounds_toArray, List.set_cons_zero, List.set_cons_succ])
      refine wpInS.take (i := 2) (v := ?_) rfl rfl (by kernel_rfl) (by kernel_rfl) (by kernel_rfl) (fun _ _ _ h => h) (Or.inl ⟨by rfl, ?_⟩) (fun _ => rfl) hHeld ?_
      rotate_left
      · intro w hSw; (try dsimp only at hSw); go_simp
        all_goals (with_reducible rfl)
      (try simp only [Act.put, List.getElem_toArray, List.getElem_cons_succ, List.getElem_cons_zero, List.setIfInBounds_toArray, List.set_cons_zero, List.set_cons_succ])
      refine wpInS.take (i := 3) (v := ?_) rfl rfl (by kernel_rfl) (by kernel_rfl) (by kernel_rfl) (fun _ _ _ h => h) (Or.inl ⟨by rfl, ?_⟩) (fun _ => rfl) hHeld ?_
      rotate_left
      · intro w hSw; (try dsimp only at hSw); go_simp
        all_goals (with_reducible rfl)
      (try simp only [Act.put, List.getElem_toArray, List.getElem_cons_succ, List.getElem_cons_zero, List.setIfInBounds_toArray, List.set_cons_zero, List.set_cons_succ])
      refine wpInS.take (i := 4) (v := ?_) rfl rfl (by kernel_rfl) (by kernel_rfl) (by kernel_rfl) (fun _ _ _ h => h) (Or.inl ⟨by rfl, ?_⟩) (fun _ => rfl) hHeld ?_
      rotate_left
      · intro w hSw; (try dsimp only at hSw); go_simp
        all_goals (with_reducible rfl)
      (try simp only [Act.put, List.getElem_toArray, List.getElem_cons_succ, List.getElem_cons_zero, List.setIfInBounds_toArray, List.set_cons_zero, List.set_cons_succ])
      refine wpInS.take (i := 5) (v := ?_) rfl rfl (by kernel_rfl) (by kernel_rfl) (by kernel_rfl) (fun _ _ _ h => h) (Or.inl ⟨by rfl, ?_⟩) (fun _ => rfl) hHeld ?_
      rotate_left
      · intro w hSw; (try dsimp only at hSw); go_simp
        all_goals (with_reducible rfl)
      (try simp only [Act.put, List.getElem_toArray, List.getElem_cons_succ, List.getElem_cons_zero, List.setIfInBounds_toArray, List.set_cons_zero, List.set_cons_succ])
      refine wpInS.take (i := 6) (v := ?_) rfl rfl (by kernel_rfl) (by kernel_rfl) (by kernel_rfl) (fun _ _ _ h => h) (Or.inl ⟨by rfl, ?_⟩) (fun _ => rfl) hHeld ?_
      rotate_left
      · intro w hSw; (try dsimp only at hSw); go_simp
        all_goals (with_reducible rfl)
      (try simp only [Act.put, List.getElem_toArray, List.getElem_cons_succ, List.getElem_cons_zero, List.setIfInBounds_toArray, List.set_cons_zero, List.set_cons_succ])
      refine wpInS.take (i := 7) (v := ?_) rfl rfl (by kernel_rfl) (by kernel_rfl) (by kernel_rfl) (fun _ _ _ h => h) (Or.inl ⟨by rfl, ?_⟩) (fun _ => rfl) hHeld ?_
      rotate_left
      · intro w hSw; (try dsimp only at hSw); go_simp
        all_goals (with_reducible rfl)
      (try simp only [Act.put, List.getElem_toArray, List.getElem_cons_succ, List.getElem_cons_zero, List.setIfInBounds_toArray, List.set_cons_zero, List.set_cons_succ])
      refine wpInS.take (i := 8) (v := ?_) rfl rfl (by kernel_rfl) (by kernel_rfl) (by kernel_rfl) (fun _ _ _ h => h) (Or.inl ⟨by rfl, ?_⟩) (fun _ => rfl) hHeld ?_
      rotate_left
      · intro w hSw; (try dsimp only at hSw); go_simp
        all_goals (with_reducible rfl)
      (try simp only [Act.put, List.getElem_toArray, List.getElem_cons_succ, List.getElem_cons_zero, List.setIfInBounds_toArray, List.set_cons_zero, List.set_cons_succ])
      refine wpInS.take (i := 9) (v := ?_) rfl rfl (by kernel_rfl) (by kernel_rfl) (by kernel_rfl) (fun _ _ _ h => h) (Or.inl ⟨by rfl, ?_⟩) (fun _ => rfl) hHeld ?_
      rotate_left
      · intro w hSw; (try dsimp only at hSw); go_simp
        all_goals (with_reducible rfl)
      (try simp only [Act.put, List.getElem_toArray, List.getElem_cons_succ, List.getElem_cons_zero, List.setIfInBounds_toArray, List.set_cons_zero, List.set_cons_succ])
      refine wpInS.take (i := 10) (v := ?_) rfl rfl (by kernel_rfl) (by kernel_rfl) (by kernel_rfl) (fun _ _ _ h => h) (Or.inl ⟨by rfl, ?_⟩) (fun _ => rfl) hHeld ?_
      rotate_left
      · intro w hSw; (try dsimp only at hSw); go_simp
        all_goals (with_reducible rfl)
      (try simp only [Act.put, List.getElem_toArray, List.getElem_cons_succ, List.getElem_cons_zero, List.setIfInBounds_toArray, List.set_cons_zero, List.set_cons_succ])
      refine wpInS.one (i := 11) (by kernel_rfl) rfl (fun K hK => ?_)
      go_simp
      first | refine hcl.mono ?_ | (refine ⟨trivial, ?_⟩; refine hcl.mono ?_)
      rintro _ w8 ⟨rfl, hc8, hb8, F', G', hP8, hF8, hG8⟩
      have hnF : ∀ b, b < W0.heap.size + 2 → ¬ (w0.heap.size ≤ b ∧ b < w1.heap.size) → ¬ (w2.heap.size ≤ b ∧ b < w3.heap.size) → ¬ F b := fun b hb1 hb2 hb3 hf => by have := (HG.out.2.1 b hf).1; omega
      obtain ⟨hz0, hz2, hz4, hz6, hz7, hzW⟩ := HZS.out
      have hlo1 := hb1.size
      have hlo2 := hb67.size
      have r11 := hc8.cell (w := Wx.drew) k11 (hnF _ (by show w7.heap.size < _; omega) (by show ¬ (w0.heap.size ≤ w7.heap.size ∧ w7.heap.size < w1.heap.size); omega) (by show ¬ (w2.heap.size ≤ w7.heap.size ∧ w7.heap.size < w3.heap.size); omega))
      have r3 := hc8.cell (w := Wx.drew) k3 (hnF _ (by show w.heap.size + 1 < _; omega) (by show ¬ (_ ≤ w.heap.size + 1 ∧ _); omega) (by show ¬ (_ ≤ w.heap.size + 1 ∧ _); omega))
      have r5 := hc8.cell (w := Wx.drew) k5 (hnF _ (by show w1.heap.size < _; omega) (by show ¬ (_ ≤ w1.heap.size ∧ w1.heap.size < w1.heap.size); omega) (by show ¬ (_ ≤ w1.heap.size ∧ _); omega))
      have r7 := hc8.cell (w := Wx.drew) k7 (hnF _ (by show w3.heap.size < _; omega) (by show ¬ (_ ≤ w3.heap.size ∧ w3.heap.size < w1.heap.size); omega) (by show ¬ (_ ≤ w3.heap.size ∧ w3.heap.size < w3.heap.size); omega))
      have hxF : ¬ F xb := hnF _ (by omega) (by omega) (by omega)
      have s0 := hc8.cell (w := Wx.drew) h0 hxF
      have s1 := hc8.cell (w := Wx.drew) h1 hxF
      have s2 := hc8.cell (w := Wx.drew) h2 hxF
      have s3 := hc8.cell (w := Wx.drew) h3 hxF
      have s4 := hc8.cell (w := Wx.drew) h4 hxF
      have s5 := hc8.cell (w := Wx.drew) h5 hxF
      have s6 := hc8.cell (w := Wx.drew) h6 hxF
      have s7 := hc8.cell (w := Wx.drew) h7 hxF
      have s8 := hc8.cell (w := Wx.drew) h8 hxF
      have s9 := hc8.cell (w := Wx.drew) h9 hxF
      clear hz0 hz2 hz4 hz6 hz7 hzW
      have hHeld2 : (fun w' => w'.cell? ⟨w7.heap.size, 0, none⟩ = some (.int .i64 (pre.length : Int)) ∧ w'.cell? ⟨w.heap.size + 1, 0, none⟩ = some (.slice (some ⟨xb, xo, none⟩) xs.length ac) ∧ w'.cell? ⟨w1.heap.size, 0, none⟩ = some (.pointer q1) ∧ w'.cell? ⟨w3.heap.size, 0, none⟩ = some (.pointer q2) ∧ w'.cell? ⟨xb, xo + pre.length * 10, none⟩ = some (.int .i64 sx.kind) ∧ w'.cell? ⟨xb, xo + pre.length * 10 + 1, none⟩ = some (.int .i64 sx.who) ∧ w'.cell? ⟨xb, xo + pre.length * 10 + 2, none⟩ = some (.string ⟨sx.name.toArray⟩) ∧ w'.cell? ⟨xb, xo + pre.length * 10 + 3, none⟩ = some (.string ⟨sx.dst.toArray⟩) ∧ w'.cell? ⟨xb, xo + pre.length * 10 + 4, none⟩ = some (.int .i64 sx.at_) ∧ w'.cell? ⟨xb, xo + pre.length * 10 + 5, none⟩ = some (.int .i64 sx.n) ∧ w'.cell? ⟨xb, xo + pre.length * 10 + 6, none⟩ = some (.slice da sx.data.length dc) ∧ w'.cell? ⟨xb, xo + pre.length * 10 + 7, none⟩ = some (.int .i64 sx.sn) ∧ w'.cell? ⟨xb, xo + pre.length * 10 + 8, none⟩ = some (.slice ka sx.keep.length kc) ∧ w'.cell? ⟨xb, xo + pre.length * 10 + 9, none⟩ = some (.int .i64 sx.st)) w8 := ⟨r11, r3, r5, r7, s0, s1, s2, s3, s4, s5, s6, s7, s8, s9⟩
      refine hK _ _ hHeld2 ?_
      clear hK K hHeld hcl
      have hHeld := hHeld2
      clear hHeld2
      refine wpInS.take (i := 12) (v := ?_) rfl rfl (by kernel_rfl) (by kernel_rfl) (by kernel_rfl) (fun _ _ _ h => h) (Or.inl ⟨by rfl, ?_⟩) (fun _ => rfl) hHeld ?_
      rotate_left
      · intro w hSw; (try dsimp only at hSw); go_simp
        all_goals (with_reducible rfl)
      (try simp only [Act.put, List.getElem_toArray, List.getElem_cons_succ, List.getElem_cons_zero, List.setIfInBounds_toArray, List.set_cons_zero, List.set_cons_succ])
      refine wpInS.take (i := 13) (v := ?_) rfl rfl (by kernel_rfl) (by kernel_rfl) (by kernel_rfl) (fun _ _ _ h => h) (Or.inl ⟨by rfl, ?_⟩) (fun _ => rfl) hHeld ?_
      rotate_left
      · intro w hSw; (try dsimp only at hSw); go_simp
        all_goals (with_reducible rfl)
      (try simp only [Act.put, List.getElem_toArray, List.getElem_cons_succ, List.getElem_cons_zero, List.setIfInBounds_toArray, List.set_cons_zero, List.set_cons_succ])
      refine wpInS.done (by kernel_rfl) ?_ _
      clear hHeld
      have b8 : Boxed w8 w7.heap.size 3 (.int .i64 pre.length) := boxed_chg (w := Wx.drew) HG.out.2.2.2.2.1 hc8 (hnF _ (by have := HZS.out; have := hb67.size; omega) (by have := HZS.out; have := hb1.size; omega) (by have := HZS.out; omega))
      have k8 := b8.cell
      have f8 := b8.frozen
      have H8 := Lib.hid (And.intro b8 (And.intro hc8 (And.intro hP8 (And.intro hF8 (And.intro hG8 hnF)))))
      clear b8 hc8 hP8 hF8 hG8 hnF r3 r5 r7 s0 s1 s2 s3 s4 s5 s6 s7 s8 s9 hxF
      gi_wp2
      obtain ⟨g1, g2, g3, g4, g5, hneS⟩ := HG.out
      obtain ⟨b8, hc8, hP8, hF8, hG8, hnF⟩ := H8.out
      obtain ⟨hz0, hz2, hz4, hz6, hz7, hzW⟩ := HZS.out
      have hset : Chg (fun b => b = w7.heap.size) w8 (w8.setCell ⟨w7.heap.size, 0, none⟩ (.int .i64 ((pre.length : Int) + 1))) := Chg.set _ rfl
      have hzs : (w8.setCell ⟨w7.heap.size, 0, none⟩ (.int .i64 ((pre.length : Int) + 1))).heap.size = w8.heap.size := by simp [World.setCell]
      have hcT : Chg (fun b => F b ∨ b = w7.heap.size) Wx (w8.setCell ⟨w7.heap.size, 0, none⟩ (.int .i64 ((pre.length : Int) + 1))) := (((Chg.refl F Wx).drew.trans hc8 (fun _ h _ => h)).mono (O' := fun b => F b ∨ b = w7.heap.size) (fun _ h _ => .inl h)).trans hset (fun _ h _ => .inr h)
      have hz8 : Wx.heap.size ≤ w8.heap.size := hc8.size
      have hlen1 : (pre ++ [x]).length = pre.length + 1 := by simp
      have hb67s := hb67.size
      have hb1s := hb1.size
      refine ⟨fun b h1 h2 => hcT.block b (by omega) ?_, KpS.of_chg hcT (fun b cs fr s hb hh hs => ?_), F', G', ?_, fun b hb => ?_, fun b hb => ?_, ?_, ?_⟩
      · rintro (h | h)
        · have := (g2 b h).1; omega
        · omega
      · rcases hb with hb | rfl
        · rw [hmin] at g1 hneS
          obtain ⟨e, _⟩ | ⟨s1, s2, p, r, e1, e2, _, _, ht⟩ := g1.cases
          · exact hone (hneS.1 e)
          · exact ht.noFile b cs fr s hb hh hs
        · rw [show Wx.heap[w7.heap.size]? = _ from g5] at hh
          simp only [Option.some.injEq, Obj.cells.injEq] at hh
          exact absurd hh.2.1 (by decide)
      · rw [show min (pre.length + 1) xs.length = pre.length + 1 by omega, stepsO_succ HSX.out.1]
        exact hP8.kept hset (fun b hb e => by have := (hF8 b hb).1; rcases this with h | h
                                              · have := (g2 b h).1; omega
                                              · have : Wx.heap.size ≤ b := h; omega) (fun b hb e => by have := (hG8 b hb).1; rcases this with h | h
                                                                                                       · exact (g3 b h).1.2.1 e
                                                                                                       · have : Wx.heap.size ≤ b := h; omega)
      · refine ⟨?_, (hF8 b hb).2⟩
        rcases (hF8 b hb).1 with h | h
        · exact (g2 b h).1
        · have : Wx.heap.size ≤ b := h
          exact .inr (.inr (by omega))
      · refine ⟨?_, (hG8 b hb).2⟩
        rcases (hG8 b hb).1 with h | h
        · exact (g3 b h).1
        · have : Wx.heap.size ≤ b := h
          exact ⟨by omega, by omega, by omega⟩
      · exact g4.trans hcT (fun b hb hlt => hb.elim (fun h => .inl (g2 b h).1) .inr)
      · exact Boxed.set _ b8
    · have jm : ¬ ((pre.length : Int) < (xs.length : Int)) := by omega
      gi_wp2_with fail
      refine wpIn_region_heldR (S := fun w' => w'.cell? ⟨w7.heap.size, 0, none⟩ = some (.int .i64 (pre.length : Int)) ∧ w'.cell? ⟨w.heap.size + 1, 0, none⟩ = some (.slice aa xs.length ac)) (by kernel_rfl) (by kernel_rfl) ⟨k11, k3⟩ (fun hHeld => ?_)
      refine wpInS.take (i := 0) (v := ?_) rfl rfl (by kernel_rfl) (by kernel_rfl) (by kernel_rfl) (fun _ _ _ h => h) (Or.inl ⟨by rfl, ?_⟩) (fun _ => rfl) hHeld ?_
      rotate_left
      · intro w hSw; (try dsimp only at hSw); go_simp
        all_goals (with_reducible rfl)
      (try simp only [Act.put, List.getElem_toArray, List.getElem_cons_succ, List.getElem_cons_zero, List.setIfInBounds_toArray, List.set_cons_zero, List.set_cons_succ])
      refine wpInS.take (i := 1) (v := ?_) rfl rfl (by kernel_rfl) (by kernel_rfl) (by kernel_rfl) (fun _ _ _ h => h) (Or.inl ⟨by rfl, ?_⟩) (fun _ => rfl) hHeld ?_
      rotate_left
      · intro w hSw; (try dsimp only at hSw); go_simp
        all_goals (with_reducible rfl)
      (try simp only [Act.put, List.getElem_toArray, List.getElem_cons_succ, List.getElem_cons_zero, List.setIfInBounds_toArray, List.set_cons_zero, List.set_cons_succ])
      refine wpInS.take (i := 2) (v := ?_) rfl rfl (by kernel_rfl) (by kernel_rfl) (by kernel_rfl) (fun _ _ _ h => h) (Or.inl ⟨by rfl, ?_⟩) (fun _ => rfl) hHeld ?_
      rotate_left
      · intro w hSw; (try dsimp only at hSw); go_simp
        all_goals (with_reducible rfl)
      (try simp only [Act.put, List.getElem_toArray, List.getElem_cons_succ, List.getElem_cons_zero, List.setIfInBounds_toArray, List.set_cons_zero, List.set_cons_succ])
      refine wpInS.take (i := 3) (v := ?_) rfl rfl (by kernel_rfl) (by kernel_rfl) (by kernel_rfl) (fun _ _ _ h => h) (Or.inl ⟨by rfl, ?_⟩) (fun _ => rfl) hHeld ?_
      rotate_left
      · intro w hSw; (try dsimp only at hSw); go_simp
        all_goals (with_reducible rfl)
      (try simp only [Act.put, List.getElem_toArray, List.getElem_cons_succ, List.getElem_cons_zero, List.setIfInBounds_toArray, List.set_cons_zero, List.set_cons_succ])
      refine wpInS.take (i := 4) (v := ?_) rfl rfl (by kernel_rfl) (by kernel_rfl) (by kernel_rfl) (fun _ _ _ h => h) (Or.inl ⟨by rfl, ?_⟩) (fun _ => rfl) hHeld ?_
      rotate_left
      · intro w hSw; (try dsimp only at hSw); go_simp
        all_goals (with_reducible rfl)
      (try simp only [Act.put, List.getElem_toArray, List.getElem_cons_succ, List.getElem_cons_zero, List.setIfInBounds_toArray, List.set_cons_zero, List.set_cons_succ])
      refine wpInS.take (i := 5) rfl rfl (by kernel_rfl) (by kernel_rfl) (by kernel_rfl) (fun _ _ _ h => h) (Or.inr ⟨by rfl, rfl⟩) (fun _ => rfl) hHeld ?_
      (try simp only [Act.put, List.getElem_toArray, List.getElem_cons_succ, List.getElem_cons_zero, List.setIfInBounds_toArray, List.set_cons_zero, List.set_cons_succ])
      refine wpInS.take (i := 6) rfl rfl (by kernel_rfl) (by kernel_rfl) (by kernel_rfl) (fun _ _ _ h => h) (Or.inr ⟨by rfl, rfl⟩) (fun _ => rfl) hHeld ?_
      (try simp only [Act.put, List.getElem_toArray, List.getElem_cons_succ, List.getElem_cons_zero, List.setIfInBounds_toArray, List.set_cons_zero, List.set_cons_succ])
      refine wpInS.take (i := 7) rfl rfl (by kernel_rfl) (by kernel_rfl) (by kernel_rfl) (fun _ _ _ h => h) (Or.inr ⟨by rfl, rfl⟩) (fun _ => rfl) hHeld ?_
      (try simp only [Act.put, List.getElem_toArray, List.getElem_cons_succ, List.getElem_cons_zero, List.setIfInBounds_toArray, List.set_cons_zero, List.set_cons_succ])
      refine wpInS.take (i := 8) rfl rfl (by kernel_rfl) (by kernel_rfl) (by kernel_rfl) (fun _ _ _ h => h) (Or.inr ⟨by rfl, rfl⟩) (fun _ => rfl) hHeld ?_
      (try simp only [Act.put, List.getElem_toArray, List.getElem_cons_succ, List.getElem_cons_zero, List.setIfInBounds_toArray, List.set_cons_zero, List.set_cons_succ])
      refine wpInS.take (i := 9) rfl rfl (by kernel_rfl) (by kernel_rfl) (by kernel_rfl) (fun _ _ _ h => h) (Or.inr ⟨by rfl, rfl⟩) (fun _ => rfl) hHeld ?_
      (try simp only [Act.put, List.getElem_toArray, List.getElem_cons_succ, List.getElem_cons_zero, List.setIfInBounds_toArray, List.set_cons_zero, List.set_cons_succ])
      refine wpInS.take (i := 10) rfl rfl (by kernel_rfl) (by kernel_rfl) (by kernel_rfl) (fun _ _ _ h => h) (Or.inr ⟨by rfl, rfl⟩) (fun _ => rfl) hHeld ?_
      (try simp only [Act.put, List.getElem_toArray, List.getElem_cons_succ, List.getElem_cons_zero, List.setIfInBounds_toArray, List.set_cons_zero, List.set_cons_succ])
      refine wpInS.one (i := 11) (by kernel_rfl) rfl (fun K hK => ?_)
      go_simp
      refine ⟨trivial, ?_⟩
      refine hK _ _ hHeld ?_
      clear hK K
      refine wpInS.take (i := 12) rfl rfl (by kernel_rfl) (by kernel_rfl) (by kernel_rfl) (fun _ _ _ h => h) (Or.inr ⟨by rfl, rfl⟩) (fun _ => rfl) hHeld ?_
      (try simp only [Act.put, List.getElem_toArray, List.getElem_cons_succ, List.getElem_cons_zero, List.setIfInBounds_toArray, List.set_cons_zero, List.set_cons_succ])
      refine wpInS.take (i := 13) (v := ?_) rfl rfl (by kernel_rfl) (by kernel_rfl) (by kernel_rfl) (fun _ _ _ h => h) (Or.inl ⟨by rfl, ?_⟩) (fun _ => rfl) hHeld ?_
      rotate_left
      · intro w hSw; (try dsimp only at hSw); go_simp
        all_goals (with_reducible rfl)
      (try simp only [Act.put, List.getElem_toArray, List.getElem_cons_succ, List.getElem_cons_zero, List.setIfInBounds_toArray, List.set_cons_zero, List.set_cons_succ])
      refine wpInS.done (by kernel_rfl) ?_ _
      clear hHeld
      have f11 := HG.out.2.2.2.2.1.frozen
      gi_wp2
      obtain ⟨g1, g2, g3, g4, g5, hneS⟩ := HG.out
      obtain ⟨hz0, hz2, hz4, hz6, hz7, hzW⟩ := HZS.out
      have hcT : Chg (fun b => b = w7.heap.size) Wx (Wx.setCell ⟨w7.heap.size, 0, none⟩ (.int .i64 ((pre.length : Int) + 1))).drew := (Chg.set (O := fun b => b = w7.heap.size) _ rfl).drew
      have hlen1 : (pre ++ [x]).length = pre.length + 1 := by simp
      have hb67s := hb67.size
      have hb1s := hb1.size
      refine ⟨fun b h1 h2 => hcT.block b (by omega) (by omega), KpS.of_chg hcT (fun b cs fr s hb hh hs => ?_), F, G, ?_, fun b hb => ⟨(g2 b hb).1, (g2 b hb).2⟩, fun b hb => ⟨(g3 b hb).1, (g3 b hb).2⟩, ?_, ?_⟩
      · subst hb
        rw [show Wx.heap[w7.heap.size]? = _ from g5] at hh
        simp only [Option.some.injEq, Obj.cells.injEq] at hh
        exact absurd hh.2.1 (by decide)
      · rw [show min (pre.length + 1) xs.length = min pre.length xs.length by omega]
        exact g1.kept hcT (fun b hb e => by have := (g2 b hb).1; omega) (fun b hb e => (g3 b hb).1.2.1 e)
      · exact g4.trans hcT (fun b hb hlt => .inr hb)
      · exact Boxed.set (W := Wx) _ g5
  case refine_7 =>
    rintro ys Wx rfl ⟨F, G, g1, g2, g3, g4, g5⟩ hK
    obtain ⟨hz0, hz2, hz4, hz6, hz7, hzW⟩ := HZS.out
    have hlo1 := hb1.size
    have hlo2 := hb67.size
    rw [List.length_finRange] at g1 g5
    have k9 := (boxed_chg p9 g4 (by omega)).cell
    have k4 := boxed_chg p4 g4 (by omega)
    have k5b := boxed_chg p5 g4 (by omega)
    have k7b := boxed_chg p7 g4 (by omega)
    have k5 := k5b.cell
    have k7 := k7b.cell
    have k11 := g5.cell
    have z1 : ((LF.length : Int) == (LF.length : Int)) = true := by simp
    obtain ⟨hokS, _, _, _⟩ := stepsO_ok hst.1 hst.2.1 hst.2.2 xs (min LF.length xs.length) (by omega)
    have htl := tells_any g1 hokS (by omega)
    have hgo := fun W (hW : Below Wx.heap.size Wx W) => (g1.below hW).goes 0 hokS (by omega)
    have hW0x := g4.size
    have hbwx : Below w.heap.size w Wx := (hb0.trans (hb0W.mono hb0.size)).trans (g4.belowLo (by have := hb0.size; have := hb0W.size; omega) (fun b hb => by have := hb0.size; have := hb0W.size; omega))
    have hKl := heap_lt hK
    have HZ9 := Lib.hid (And.intro hz0 (And.intro hz2 (And.intro hz4 (And.intro hz6 (And.intro hz7 hzW)))))
    have HGS := Lib.hid (And.intro g2 (And.intro g3 g4))
    clear hz0 hz2 hz4 hz6 hz7 hzW g2 g3 g4
    go_wp2_with (first
      | (go_at_call 12; refine htl.mono ?_; rintro _ w10 ⟨rfl, hb10⟩; have n5 := (boxed_below k5b hb10 k5b.lt).cell; have n7 := (boxed_below k7b hb10 k7b.lt).cell; have hgo1 := hgo w10 hb10)
      | (go_at_call 20; refine hgo1.mono ?_; rintro _ w11 ⟨rfl, hb11⟩; have hb101 := hb10.trans (hb11.mono hb10.size))
      | (go_at_call 16; refine (cK w11).mono ?_; rintro _ w12 ⟨rfl, hb12⟩; have hb102 := hb101.trans (hb12.mono hb101.size); have q4 := boxed_below k4 hb102 k4.lt; have q4c := q4.cell; have q4f := q4.frozen))
    have HBW := Lib.hid hbwx
    obtain ⟨hz0, hz2, hz4, hz6, hz7, hzW⟩ := HZ9.out
    have hsW := hb0W.size
    have hDne : W0.heap.size ≠ w.heap.size + 1 + 1 := by omega
    have hKg : (w12.setCell ⟨w.heap.size + 1 + 1, 0, none⟩ (.bool true)).heap[W0.heap.size]? = some (.deferred (some [])) := (Below.heap_setCell _ _ _ _ (by show W0.heap.size ≠ w.heap.size + 1 + 1; exact hDne)).trans ((hb102.block _ hKl).trans hK)
    have kset := Boxed.set (.bool true) q4
    have hbz1 : Below w.heap.size w (w12.setCell ⟨w.heap.size + 1 + 1, 0, none⟩ (.bool true)) := (hbwx.trans (hb102.mono hbwx.size)).setCell (p := ⟨w.heap.size + 1 + 1, 0, none⟩) (by show w.heap.size ≤ w.heap.size + 1 + 1; omega) _
    generalize hWz : w12.setCell ⟨w.heap.size + 1 + 1, 0, none⟩ (.bool true) = wz at *
    refine ⟨by simp, .inl ⟨W0.heap.size, _, rfl, run_takeDeferred hKg, ?_⟩⟩
    have hcz : (wz.putObj W0.heap.size (.deferred none)).cell? ⟨w.heap.size + 1 + 1, 0, none⟩ = some (.bool true) := (World.cell?_of_block (a := ⟨w.heap.size + 1 + 1, 0, none⟩) (World.putObj_heap_other (Ne.symm hDne))).trans kset.cell
    have hbz : Below w.heap.size w (wz.putObj W0.heap.size (.deferred none)) := hbz1.trans ⟨rfl, rfl, rfl, by simp [World.putObj], fun b hb => World.putObj_heap_other (by omega)⟩
    exact ⟨.bool true, by simp [results, Tryz.results4, go_sem, hcz], rfl, hbz⟩

end Go.Proofs.YtgckcnnnblggbaaGreat
