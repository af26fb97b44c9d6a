/- Texts of this claim, one behind the other: DlR. -/
import Derived.Test.YtgckcnnnblggbaaGreatSt35
import Derived.BigQuiet
set_option linter.unusedSimpArgs false
set_option linter.unusedVariables false
/- Disk: goes: All, left behind some turns, and gone over once more. -/
namespace Go.Proofs.YtgckcnnnblggbaaGreat
open Go.RowKit Go.Maps Go.Shelf
attribute [local go_sem] Oper.semAt_some
set_option maxRecDepth 1000000

theorem Chg.from {O : Nat → Prop} {W0 W W' : World} {row : Option Nat} {B : Nat} (h : Chg O W0 W) (hg : W.grownBy W' row) (hB : W0.heap.size ≤ B) (hr : ∀ r, row = some r → B ≤ r ∧ ∃ o : Obj, W.heap[r]? = some o ∧ o.isCells = false) : Chg O W0 W' :=
  ⟨hg.os.trans h.os, hg.tape.trans h.tape, hg.output.trans h.output, Nat.le_trans h.size hg.size, fun k hk hn => (hg.block k (Nat.lt_of_lt_of_le hk h.size) (fun e => by have := (hr k e.symm).1; omega)).trans (h.block k hk hn)⟩
theorem boxed_below {w w' : World} {B b : Nat} {t : TypeId} {v : Value} (h : Boxed w b t v) (hb : Below B w w') (hlt : b < B) : Boxed w' b t v := (hb.block b hlt).trans h
theorem boxed_chg {O : Nat → Prop} {w w' : World} {b : Nat} {t : TypeId} {v : Value} (h : Boxed w b t v) (hc : Chg O w w') (hO : ¬ O b) : Boxed w' b t v := (hc.block b h.lt hO).trans h
theorem boxed_own {W W' : World} {row : Option Nat} {B b : Nat} {t : TypeId} {v : Value} (h : Boxed W b t v) (hg : W.grownBy W' row) (hr : ∀ r, row = some r → B ≤ r ∧ ∃ o : Obj, W.heap[r]? = some o ∧ o.isCells = false) : Boxed W' b t v := by
  refine h.kept hg fun e => ?_
  obtain ⟨_, o, ho, hc⟩ := hr b e.symm
  rw [show W.heap[b]? = _ from h] at ho
  cases ho; cases hc
theorem seq_nil (w : World) (f : Fn) (x y : Array Value) : (binOp .eql 53 (.func f x y) .nilFunc).run Tryz.prog w = .ok (.bool false) w := by
  kernel_rfl
theorem fin_prefix {n : Nat} {pre : List (Fin n)} {x : Fin n} (h : pre ++ [x] <+: List.finRange n) : x.1 = pre.length := by
  obtain ⟨t, ht⟩ := h
  have : (List.finRange n)[pre.length]? = some x := by rw [← ht]; simp
  obtain ⟨hk, hx⟩ := List.getElem?_eq_some_iff.1 this
  rw [List.getElem_finRange] at hx
  rw [← hx]; rfl
theorem KpT.set_int (W : World) {hi b : Nat} {kt : TypeId → Prop} {v v' : Value} (hb : Boxed W b 3 v) (hk : ¬ kt 3) (hi0 : hi = 0) : KpT hi kt W (W.setCell ⟨b, 0, none⟩ v') :=
  KpT.of_chg (Chg.set (O := (· = b)) _ rfl) (fun _ _ => by omega) (fun c cs t fr e hc hkt => by
    subst e
    rw [show W.heap[c]? = _ from hb] at hc
    simp only [Option.some.injEq, Obj.cells.injEq] at hc
    exact hk (hc.2.1 ▸ hkt))

set_option maxHeartbeats 8000000 in
/-- one round of the loop within: what it does to a name and a size -/
theorem goes_any {w : World} {a ra : Option Addr} {L : List (List UInt8 × List UInt8)} (hL : L.length ≤ maxList) (leave : Int)
    (hF : ∀ W, Below w.heap.size w W → Calls Tryz.prog 14 #[.pointer a] W fun e w' => ∃ v cs, e = .returned v ∧ FilesAt w' W.heap.size (W.heap.size + 1) v cs L ∧ Below W.heap.size W w')
    (hR : ∀ W, Below w.heap.size w W → Calls Tryz.prog 18 #[.pointer ra] W fun e w' => ∃ fa fc, e = .returned (.slice fa L.length fc) ∧ FilesRd w' fa L ∧ Below W.heap.size W w') :
    Calls Tryz.prog 20 #[.pointer a, .pointer ra, .int .i64 leave] w fun e w' => e = .returned (.bool true) ∧ Below w.heap.size w w' := by
  have hmx : maxList = 4194304 := rfl
  refine (callsIn_wide (n := 6)).1 ?_
  refine callsIn_of_wp_marks Tryz.func20 rfl trivial ?_ rfl
  simp only [Tryz.ntmps20, List.size_toArray, List.length_cons, List.length_nil, Nat.reduceAdd, Nat.reduceSub, Array.replicate_succ, Array.replicate_zero, List.push_toArray, List.append_toArray, List.nil_append, List.cons_append]
  refine wpIn_wide.2 ?_
  obtain ⟨w0, hw0⟩ : ∃ w0, (w.alloc (.cells #[.int .i64 leave] 3)).alloc (.cells #[.bool false] 4) = w0 := ⟨_, rfl⟩
  have hb0 : Below w.heap.size w w0 := by rw [← hw0]; exact (below_alloc w _).alloc (by simp) _
  have hz0 : w0.heap.size = w.heap.size + 1 + 1 := by rw [← hw0]; simp
  have h5 : Boxed w0 w.heap.size 3 (.int .i64 leave) := by rw [← hw0]; exact (Boxed.new _ _ _).alloc _
  have h6 : Boxed w0 (w.heap.size + 1) 4 (.bool false) := by rw [← hw0]; have := Boxed.new (w.alloc (.cells #[.int .i64 leave] 3)) 4 (.bool false); rwa [World.size_alloc] at this
  have cA := All_any a w0
  have hwlt : w.heap.size + 1 < w0.heap.size := by omega
  have HZ0 := Lib.hid hz0; clear hz0
  have hnf := seq_nil
  go_wp2_with (first
    | (go_at_call 19; refine cA.mono ?_; rintro _ w1 ⟨rfl, hw1⟩; have hb1 : Below w0.heap.size w0 w1 := (by rw [hw1]; exact below_alloc _ _); have hbd : Boxed w1 w0.heap.size 27 (.pointer a) := (by rw [hw1]; exact Boxed.new _ _ _); clear hw1 hw0; have cR := hR w1 (hb0.trans (hb1.mono hb0.size)))
    | (go_at_call 18; refine cR.mono ?_; rintro _ w2 ⟨fa, fc, rfl, hrd, hb2⟩))
  have hs0 := hb0.size
  have hs1 := hb1.size
  have hs2 := hb2.size
  obtain ⟨w3, hw3⟩ : ∃ w3, (w2.alloc (.cells #[.slice fa L.length fc] 22)).alloc (.cells #[.int .i64 0] 3) = w3 := ⟨_, rfl⟩
  have hb3 : Below w2.heap.size w2 w3 := by rw [← hw3]; exact (below_alloc w2 _).alloc (by simp) _
  have hz3 : w3.heap.size = w2.heap.size + 1 + 1 := by rw [← hw3]; simp
  have h8 : Boxed w3 w2.heap.size 22 (.slice fa L.length fc) := by rw [← hw3]; exact (Boxed.new _ _ _).alloc _
  have h9 : Boxed w3 (w2.heap.size + 1) 3 (.int .i64 0) := by rw [← hw3]; have := Boxed.new (w2.alloc (.cells #[.slice fa L.length fc] 22)) 3 (.int .i64 0); rwa [World.size_alloc] at this
  have hrd3 := hrd.below hb3
  rw [hw3]
  clear hw3 hrd
  have hb03 : Below w0.heap.size w0 w3 := (hb1.trans (hb2.mono hs1)).trans (hb3.mono (Nat.le_trans hs1 hs2))
  have hbd3 : Boxed w3 w0.heap.size 27 (.pointer a) := boxed_below (boxed_below hbd hb2 hbd.lt) hb3 (Nat.lt_of_lt_of_le hbd.lt hs2)
  have k5 := boxed_below h5 hb03 (by omega)
  have k6 := boxed_below h6 hb03 (by omega)
  have c9 := h9.cell
  have hs03 := hb03.size
  have hs23 : w2.heap.size + 1 < w3.heap.size := by omega
  have HZ3 := Lib.hid hz3; clear hz3
  clear hb1 hb2 hb3 hbd h5 h6
  refine wp_loop_rounds 3 ?_
  rw [rounds_succ]
  go_wp2_with fail
  obtain ⟨W0, hW0⟩ : ∃ W0, w3.alloc (.cells #[.int .i64 0] 3) = W0 := ⟨_, rfl⟩
  have hB0 : Below w3.heap.size w3 W0 := by rw [← hW0]; exact below_alloc _ _
  have hZ0 : W0.heap.size = w3.heap.size + 1 := by rw [← hW0]; simp
  have h10 : Boxed W0 w3.heap.size 3 (.int .i64 0) := by rw [← hW0]; exact Boxed.new _ _ _
  rw [hW0]
  have hZ0' : w3.heap.size < W0.heap.size := by omega
  have HZW0 := Lib.hid hZ0; clear hZ0 hW0
  have hBW0 : Below w.heap.size w W0 := (hb0.trans (hb03.mono hs0)).trans (hB0.mono (by omega))
  have q70 := boxed_below hbd3 hB0 hbd3.lt
  have h100 := h10
  have q80 := boxed_below h8 hB0 h8.lt
  have q90 := boxed_below h9 hB0 h9.lt
  have q60 := boxed_below k6 hB0 k6.lt
  have q50 := boxed_below k5 hB0 k5.lt
  have hbdl := hbd3.lt
  have hk5l := k5.lt
  have hF0 : ∀ Wx, Below W0.heap.size W0 Wx → Calls Tryz.prog 14 #[.pointer a] Wx fun e w' => ∃ v cs, e = .returned v ∧ FilesAt w' Wx.heap.size (Wx.heap.size + 1) v cs L ∧ Below Wx.heap.size Wx w' := fun Wx hW => hF Wx (hBW0.trans (hW.mono hBW0.size))
  refine (wpIn_wide (n := 6)).1 ?_
  refine wpIn_rangeFunc_ownF rfl (by omega) (gf := 69) (lb := #[.pointer (some ⟨w0.heap.size, 0, none⟩)]) rfl trivial (enters_of Tryz.func69 (by kernel_rfl) rfl)
    (all1_stops 5 (by omega) hL hF0 q70 0 (fun t => t = 56) rfl) (fun h k => h.trans k) (fun Wx l o o' hl ho hc _ => KpT.putObj Wx l o o' (by omega) ho hc) (Below.refl _ _) (fun _ => rfl)
    (fun pre Wx => Chg (fun b => b = w3.heap.size) W0 Wx ∧ Boxed Wx w3.heap.size 3 (.int .i64 pre.length) ∧ (0 < leave → (pre.length : Int) < leave))
    (fun c pre Wx => (c = .ret ∧ ¬ pre <+: List.finRange L.length) ∨ (c = .exit 2 ∧ (pre.length : Int) = leave ∧ 0 < leave ∧ Chg (fun b => b = w3.heap.size) W0 Wx ∧ Boxed Wx w3.heap.size 3 (.int .i64 pre.length)))
    ?_ ?_ ?_ ?_ ?_ ?_ ?_ ?_
  case refine_5 => intro l x Wx K hK; simp only [itemA]; gi_wp2; exact hK
  case refine_3 => exact ⟨Chg.refl _ _, h100, fun h => h⟩
  case refine_1 =>
    rintro s Wx Wx' row ⟨g1, g2, g3⟩ hg hr
    exact ⟨g1.from hg (Nat.le_refl _) hr, boxed_own g2 hg hr, g3⟩
  case refine_2 =>
    rintro c s Wx Wx' row (h | ⟨e1, e2, e3, g1, g2⟩) hg hr
    · exact .inl h
    · exact .inr ⟨e1, e2, e3, g1.from hg (Nat.le_refl _) hr, boxed_own g2 hg hr⟩
  case refine_6 =>
    rintro l pre x Wx ⟨g1, g2, g3⟩ hpl
    obtain ⟨y, hy⟩ : ∃ y, L[pre.length]? = some y := ⟨L[pre.length]'hpl, by simp⟩
    obtain ⟨fbk, fof, rfl, hcells⟩ := hrd3 (fun e => by
      have h0 : L.length = 0 := by rw [e]; rfl
      omega)
    obtain ⟨n1, ua, uc, u1, _⟩ := hcells pre.length y hy
    clear hcells
    have hfl : fbk < w3.heap.size := cell_lt n1
    have m1 := g1.cell ((hB0.cell (p := ⟨fbk, fof + pre.length * 2, none⟩) hfl).trans n1) (by show ¬ fbk = w3.heap.size; omega)
    have m2 := g1.cell ((hB0.cell (p := ⟨fbk, fof + pre.length * 2 + 1, none⟩) hfl).trans u1) (by show ¬ fbk = w3.heap.size; omega)
    have c8 := (boxed_chg (q80) g1 (by omega)).cell
    have cT := (boxed_chg (q90) g1 (by omega)).cell
    have r6 := boxed_chg (q60) g1 (by omega)
    have c6 := r6.cell; have f6 := r6.frozen
    have c5 := (boxed_chg (q50) g1 (by omega)).cell
    have c10 := g2.cell; have f10 := g2.frozen
    have hx : L[x.1]? = some L[x] := by simp
    have hpx : x.1 = pre.length → L[x] = y := fun e => Option.some.inj (hx.symm.trans ((congrArg (fun k => L[k]?) e).trans hy))
    have z0 : decide ((L.length : Int) ≤ (pre.length : Int)) = false := by simp; omega
    have j0 : (0 : Int) ≤ (pre.length : Int) := by omega
    have j1 : (pre.length : Int) < (L.length : Int) := by omega
    generalize L[x] = z at *
    unfold sv at m1 ⊢
    have HPX := Lib.hid hpx; clear hpx hx hy n1 u1
    by_cases e1 : z.1 = y.1
    · have y1 : (z.1 == y.1) = true := by simpa using e1
      have y2 : (z.1 != y.1) = false := by simpa using e1
      by_cases e2 : z.2.length = y.2.length
      · have y3 : ((z.2.length : Int) == (y.2.length : Int)) = true := by simp [e2]
        have y4 : ((z.2.length : Int) != (y.2.length : Int)) = false := by simp [e2]
        clear e1 e2
        have hlen1 : ((pre ++ [x]).length : Int) = (pre.length : Int) + 1 := by simp
        have hc2 : Chg (fun b => b = w3.heap.size) W0 (Wx.setCell ⟨w3.heap.size, 0, none⟩ (.int .i64 ((pre.length : Int) + 1))) := g1.trans (Chg.set (O := fun b => b = w3.heap.size) _ rfl) (fun _ h _ => h)
        have hb2' := Boxed.set (.int .i64 ((pre.length : Int) + 1)) g2
        have hkt : KpT 0 (fun t => t = 56) Wx (Wx.setCell ⟨w3.heap.size, 0, none⟩ (.int .i64 ((pre.length : Int) + 1))) := KpT.set_int Wx g2 (by decide) rfl
        have hko := KeepsOthers.setCell Wx ⟨w3.heap.size, 0, none⟩ (.int .i64 ((pre.length : Int) + 1))
        have c5' := (boxed_chg (q50) hc2 (by omega)).cell
        have cT' := (boxed_chg (q90) hc2 (by omega)).cell
        have c10' := hb2'.cell
        have HB := Lib.hid hb2'; have HC := Lib.hid hc2; have HK := Lib.hid hkt; have HO := Lib.hid hko; have HL1 := Lib.hid hlen1
        clear hb2' hc2 hkt hko hlen1
        by_cases elv : (pre.length : Int) + 1 = leave
        · have zl : (((pre.length : Int) + 1) == leave) = true := by simpa using elv
          have ELV := Lib.hid elv; clear elv g3
          gi_wp2
          exact ⟨HO.out, .inr ⟨rfl, HL1.out.trans ELV.out, by have := ELV.out; omega, HC.out, by rw [HL1.out]; exact HB.out⟩⟩
        · have zl : (((pre.length : Int) + 1) == leave) = false := by simpa using elv
          have G3 := Lib.hid g3; have ELV := Lib.hid elv; clear elv g3
          gi_wp2
          exact ⟨HO.out, HK.out, HC.out, by rw [HL1.out]; exact HB.out, fun h => by have := G3.out h; have := ELV.out; rw [HL1.out]; omega⟩
      · have y3 : ((z.2.length : Int) == (y.2.length : Int)) = false := by simp; omega
        have y4 : ((z.2.length : Int) != (y.2.length : Int)) = true := by simp; omega
        have HNP : Hid (¬ (pre ++ [x] <+: List.finRange L.length)) := Lib.hid (fun h => e2 (by rw [HPX.out (fin_prefix h)]))
        clear e1 e2
        gi_wp2
        exact ⟨KeepsOthers.setCell _ _ _, .inl ⟨rfl, HNP.out⟩⟩
    · have y1 : (z.1 == y.1) = false := by simpa using e1
      have y2 : (z.1 != y.1) = true := by simpa using e1
      have HNP : Hid (¬ (pre ++ [x] <+: List.finRange L.length)) := Lib.hid (fun h => e1 (by rw [HPX.out (fin_prefix h)]))
      clear e1
      gi_wp2
      exact ⟨KeepsOthers.setCell _ _ _, .inl ⟨rfl, HNP.out⟩⟩
  case refine_7 =>
    rintro Dd xs W hD rfl ⟨g1, g2, g3⟩ hK
    rw [List.length_finRange] at g2 g3
    have c10 := g2.cell
    have c8 := (boxed_chg q80 g1 (by omega)).cell
    have cT := (boxed_chg q90 g1 (by omega)).cell
    have c5 := (boxed_chg q50 g1 (by omega)).cell
    have z1 : ((L.length : Int) != (L.length : Int)) = false := by simp
    by_cases hlv : 0 < leave
    · have l1 : decide (0 < leave) = true := by simpa using hlv
      have l2 : decide (leave ≤ 0) = false := by simp; omega
      have l3 : min leave (L.length : Int) = (L.length : Int) := by have := g3 hlv; omega
      clear g3 hlv
      go_wp2_with fail
      clear l1 l2 l3
      rw [rounds_succ]
      go_wp2_with fail
      obtain ⟨W1, hW1⟩ : ∃ W1, (W.alloc (.cells #[.int .i64 1] 3)).alloc (.cells #[.int .i64 0] 3) = W1 := ⟨_, rfl⟩
      have hDlt : Dd < W.heap.size := (Array.getElem?_eq_some_iff.1 hK).1
      have hB1 : Below W.heap.size W W1 := by rw [← hW1]; exact (below_alloc _ _).alloc (by simp) _
      have hZ1 : W1.heap.size = W.heap.size + 1 + 1 := by rw [← hW1]; simp
      have q91 : Boxed W1 W.heap.size 3 (.int .i64 1) := by rw [← hW1]; exact (Boxed.new _ _ _).alloc _
      have h101 : Boxed W1 (W.heap.size + 1) 3 (.int .i64 0) := by rw [← hW1]; have := Boxed.new (W.alloc (.cells #[.int .i64 1] 3)) 3 (.int .i64 0); rwa [World.size_alloc] at this
      have hK1 : W1.heap[Dd]? = some (.deferred (some [])) := (hB1.block Dd hDlt).trans hK
      rw [hW1]
      have hZ1' : W.heap.size + 1 < W1.heap.size := by omega
      have HZ1 := Lib.hid hZ1; clear hZ1 hW1
      have hg1s := g1.size
      have hc01 : Chg (fun b => b = w3.heap.size) W0 W1 := g1.trans (Chg.of_below (O := fun b => b = w3.heap.size) hB1) (fun _ h _ => h)
      have hBW1 : Below w.heap.size w W1 := hBW0.trans ⟨hc01.os, hc01.tape, hc01.output, hc01.size, fun y hy => hc01.block y (by omega) (by omega)⟩
      have q71 := boxed_chg q70 hc01 (by omega)
      have q81 := boxed_chg q80 hc01 (by omega)
      have q61 := boxed_chg q60 hc01 (by omega)
      have q51 := boxed_chg q50 hc01 (by omega)
      clear c10 c8 cT c5 z1
      have hF1 : ∀ Wx, Below W1.heap.size W1 Wx → Calls Tryz.prog 14 #[.pointer a] Wx fun e w' => ∃ v cs, e = .returned v ∧ FilesAt w' Wx.heap.size (Wx.heap.size + 1) v cs L ∧ Below Wx.heap.size Wx w' := fun Wx hW => hF Wx (hBW1.trans (hW.mono hBW1.size))
      refine (wpIn_wide (n := 6)).1 ?_
      refine wpIn_rangeFunc_ownF rfl (by omega) (gf := 69) (lb := #[.pointer (some ⟨w0.heap.size, 0, none⟩)]) rfl trivial (enters_of Tryz.func69 (by kernel_rfl) rfl)
        (all1_stops 5 (by omega) hL hF1 q71 0 (fun t => t = 56) rfl) (fun h k => h.trans k) (fun Wx l o o' hl ho hc _ => KpT.putObj Wx l o o' (by omega) ho hc) (Below.refl _ _) (fun _ => rfl)
        (fun pre Wx => Chg (fun b => b = (W.heap.size + 1)) W1 Wx ∧ Boxed Wx (W.heap.size + 1) 3 (.int .i64 pre.length))
        (fun c pre Wx => (c = .ret ∧ ¬ pre <+: List.finRange L.length))
        ?_ ?_ ?_ ?_ ?_ ?_ ?_ ?_
      case refine_5 => intro l x Wx K hK; simp only [itemA]; gi_wp2; exact hK
      case refine_3 => exact ⟨Chg.refl _ _, h101⟩
      case refine_1 =>
        rintro s Wx Wx' row ⟨g1, g2⟩ hg hr
        exact ⟨g1.from hg (Nat.le_refl _) hr, boxed_own g2 hg hr⟩
      case refine_2 =>
        rintro c s Wx Wx' row h hg hr
        exact h
      case refine_6 =>
        rintro l pre x Wx ⟨g1, g2⟩ hpl
        obtain ⟨y, hy⟩ : ∃ y, L[pre.length]? = some y := ⟨L[pre.length]'hpl, by simp⟩
        obtain ⟨fbk, fof, rfl, hcells⟩ := hrd3 (fun e => by
          have h0 : L.length = 0 := by rw [e]; rfl
          omega)
        obtain ⟨n1, ua, uc, u1, _⟩ := hcells pre.length y hy
        clear hcells
        have hfl : fbk < w3.heap.size := cell_lt n1
        have m1 := g1.cell (hc01.cell ((hB0.cell (p := ⟨fbk, fof + pre.length * 2, none⟩) hfl).trans n1) (by show ¬ fbk = w3.heap.size; omega)) (by show ¬ fbk = (W.heap.size + 1); omega)
        have m2 := g1.cell (hc01.cell ((hB0.cell (p := ⟨fbk, fof + pre.length * 2 + 1, none⟩) hfl).trans u1) (by show ¬ fbk = w3.heap.size; omega)) (by show ¬ fbk = (W.heap.size + 1); omega)
        have c8 := (boxed_chg (q81) g1 (by omega)).cell
        have cT := (boxed_chg (q91) g1 (by omega)).cell
        have r6 := boxed_chg (q61) g1 (by omega)
        have c6 := r6.cell; have f6 := r6.frozen
        have c5 := (boxed_chg (q51) g1 (by omega)).cell
        have c10 := g2.cell; have f10 := g2.frozen
        have hx : L[x.1]? = some L[x] := by simp
        have hpx : x.1 = pre.length → L[x] = y := fun e => Option.some.inj (hx.symm.trans ((congrArg (fun k => L[k]?) e).trans hy))
        have z0 : decide ((L.length : Int) ≤ (pre.length : Int)) = false := by simp; omega
        have j0 : (0 : Int) ≤ (pre.length : Int) := by omega
        have j1 : (pre.length : Int) < (L.length : Int) := by omega
        generalize L[x] = z at *
        unfold sv at m1 ⊢
        have HPX := Lib.hid hpx; clear hpx hx hy n1 u1
        by_cases e1 : z.1 = y.1
        · have y1 : (z.1 == y.1) = true := by simpa using e1
          have y2 : (z.1 != y.1) = false := by simpa using e1
          by_cases e2 : z.2.length = y.2.length
          · have y3 : ((z.2.length : Int) == (y.2.length : Int)) = true := by simp [e2]
            have y4 : ((z.2.length : Int) != (y.2.length : Int)) = false := by simp [e2]
            clear e1 e2
            have hlen1 : ((pre ++ [x]).length : Int) = (pre.length : Int) + 1 := by simp
            have hc2 : Chg (fun b => b = (W.heap.size + 1)) W1 (Wx.setCell ⟨(W.heap.size + 1), 0, none⟩ (.int .i64 ((pre.length : Int) + 1))) := g1.trans (Chg.set (O := fun b => b = (W.heap.size + 1)) _ rfl) (fun _ h _ => h)
            have hb2' := Boxed.set (.int .i64 ((pre.length : Int) + 1)) g2
            have hkt : KpT 0 (fun t => t = 56) Wx (Wx.setCell ⟨(W.heap.size + 1), 0, none⟩ (.int .i64 ((pre.length : Int) + 1))) := KpT.set_int Wx g2 (by decide) rfl
            have hko := KeepsOthers.setCell Wx ⟨(W.heap.size + 1), 0, none⟩ (.int .i64 ((pre.length : Int) + 1))
            have c5' := (boxed_chg (q51) hc2 (by omega)).cell
            have cT' := (boxed_chg (q91) hc2 (by omega)).cell
            have c10' := hb2'.cell
            have HB := Lib.hid hb2'; have HC := Lib.hid hc2; have HK := Lib.hid hkt; have HO := Lib.hid hko; have HL1 := Lib.hid hlen1
            clear hb2' hc2 hkt hko hlen1
            gi_wp2
            exact ⟨HO.out, HK.out, HC.out, by rw [HL1.out]; exact HB.out⟩
          · have y3 : ((z.2.length : Int) == (y.2.length : Int)) = false := by simp; omega
            have y4 : ((z.2.length : Int) != (y.2.length : Int)) = true := by simp; omega
            have HNP : Hid (¬ (pre ++ [x] <+: List.finRange L.length)) := Lib.hid (fun h => e2 (by rw [HPX.out (fin_prefix h)]))
            clear e1 e2
            gi_wp2
            exact ⟨KeepsOthers.setCell _ _ _, ⟨rfl, HNP.out⟩⟩
        · have y1 : (z.1 == y.1) = false := by simpa using e1
          have y2 : (z.1 != y.1) = true := by simpa using e1
          have HNP : Hid (¬ (pre ++ [x] <+: List.finRange L.length)) := Lib.hid (fun h => e1 (by rw [HPX.out (fin_prefix h)]))
          clear e1
          gi_wp2
          exact ⟨KeepsOthers.setCell _ _ _, ⟨rfl, HNP.out⟩⟩
      case refine_7 =>
        rintro D2 xs Wa hD2 rfl ⟨g1', g2'⟩ hK2
        rw [List.length_finRange] at g2'
        have c10 := g2'.cell
        have c8 := (boxed_chg q81 g1' (by omega)).cell
        have cT := (boxed_chg q91 g1' (by omega)).cell
        have c5 := (boxed_chg q51 g1' (by omega)).cell
        have z1 : ((L.length : Int) != (L.length : Int)) = false := by simp
        have hD2lt : D2 < Wa.heap.size := (Array.getElem?_eq_some_iff.1 hK2).1
        have hg1s' := g1'.size
        have k6 : Boxed (Wa.alloc (.cells #[.int .i64 2] 3)) (w.heap.size + 1) 4 (.bool false) := (boxed_chg q61 g1' (by omega)).alloc _
        have hK1a : Wa.heap[Dd]? = some (.deferred (some [])) := (g1'.block Dd (by omega) (by omega)).trans hK1
        have hDne : D2 ≠ Dd := fun e => by
          have h1 := hD2
          omega
        have hbA : Below w.heap.size w Wa := hBW1.trans ⟨g1'.os, g1'.tape, g1'.output, g1'.size, fun y hy => g1'.block y (by have := hBW1.size; omega) (by have := hBW0.size; omega)⟩
        go_wp2_with fail
        rw [rounds_succ]
        have c6g := k6.cell
        have f6g := k6.frozen
        have hK2g : ((Wa.alloc (.cells #[.int .i64 2] 3)).setCell ⟨w.heap.size + 1, 0, none⟩ (.bool true)).heap[D2]? = some (.deferred (some [])) := (Below.heap_setCell _ _ _ _ (by show D2 ≠ w.heap.size + 1; intro e; rw [e] at hK2; have h := (boxed_chg q61 g1' (by omega)); rw [show Wa.heap[w.heap.size + 1]? = _ from h] at hK2; cases hK2)).trans ((Below.heap_alloc _ _ _ hD2lt).trans hK2)
        have hK1g : ((Wa.alloc (.cells #[.int .i64 2] 3)).setCell ⟨w.heap.size + 1, 0, none⟩ (.bool true)).heap[Dd]? = some (.deferred (some [])) := (Below.heap_setCell _ _ _ _ (by show Dd ≠ w.heap.size + 1; intro e; rw [e] at hK1a; have h := (boxed_chg q61 g1' (by omega)); rw [show Wa.heap[w.heap.size + 1]? = _ from h] at hK1a; cases hK1a)).trans ((Below.heap_alloc _ _ _ (by omega)).trans hK1a)
        have kset := Boxed.set (.bool true) k6
        have hbelg : Below w.heap.size w ((Wa.alloc (.cells #[.int .i64 2] 3)).setCell ⟨w.heap.size + 1, 0, none⟩ (.bool true)) := (hbA.alloc hbA.size _).setCell (p := ⟨w.heap.size + 1, 0, none⟩) (by show w.heap.size ≤ w.heap.size + 1; omega) _
        go_wp2
        generalize hWz : (Wa.alloc (.cells #[.int .i64 2] 3)).setCell ⟨w.heap.size + 1, 0, none⟩ (.bool true) = wz at *
        refine ⟨by simp, .inl ⟨D2, _, rfl, run_takeDeferred hK2g, ⟨by simp, .inl ⟨Dd, _, rfl, run_takeDeferred ((World.putObj_heap_other (by omega)).trans hK1g), ?_⟩⟩⟩⟩
        have hcz : ((wz.putObj D2 (.deferred none)).putObj Dd (.deferred none)).cell? ⟨w.heap.size + 1, 0, none⟩ = some (.bool true) := by
          have e : ((wz.putObj D2 (.deferred none)).putObj Dd (.deferred none)).heap[w.heap.size + 1]? = wz.heap[w.heap.size + 1]? := (World.putObj_heap_other (by intro e; rw [← e, show wz.heap[w.heap.size + 1]? = _ from kset] at hK1g; cases hK1g)).trans (World.putObj_heap_other (by intro e; rw [← e, show wz.heap[w.heap.size + 1]? = _ from kset] at hK2g; cases hK2g))
          exact (World.cell?_of_block (a := ⟨w.heap.size + 1, 0, none⟩) e).trans kset.cell
        have hbz : Below w.heap.size w ((wz.putObj D2 (.deferred none)).putObj Dd (.deferred none)) := hbelg.trans ⟨rfl, rfl, rfl, by simp, fun b hb => (World.putObj_heap_other (by omega)).trans (World.putObj_heap_other (by omega))⟩
        exact ⟨.bool true, by simp [results, Tryz.results20, go_sem, hcz], rfl, hbz⟩
      case refine_8 =>
        rintro D2 c pre W' _ hSp ⟨_, h⟩ _
        exact absurd hSp h
    · have l1 : decide (0 < leave) = false := by simpa using hlv
      have l2 : decide (leave ≤ 0) = true := by simp; omega
      clear g3 hlv
      go_wp2_with fail
      clear l1 l2
      rw [rounds_succ]
      go_wp2_with fail
      obtain ⟨W1, hW1⟩ : ∃ W1, (W.alloc (.cells #[.int .i64 1] 3)).alloc (.cells #[.int .i64 0] 3) = W1 := ⟨_, rfl⟩
      have hDlt : Dd < W.heap.size := (Array.getElem?_eq_some_iff.1 hK).1
      have hB1 : Below W.heap.size W W1 := by rw [← hW1]; exact (below_alloc _ _).alloc (by simp) _
      have hZ1 : W1.heap.size = W.heap.size + 1 + 1 := by rw [← hW1]; simp
      have q91 : Boxed W1 W.heap.size 3 (.int .i64 1) := by rw [← hW1]; exact (Boxed.new _ _ _).alloc _
      have h101 : Boxed W1 (W.heap.size + 1) 3 (.int .i64 0) := by rw [← hW1]; have := Boxed.new (W.alloc (.cells #[.int .i64 1] 3)) 3 (.int .i64 0); rwa [World.size_alloc] at this
      have hK1 : W1.heap[Dd]? = some (.deferred (some [])) := (hB1.block Dd hDlt).trans hK
      rw [hW1]
      have hZ1' : W.heap.size + 1 < W1.heap.size := by omega
      have HZ1 := Lib.hid hZ1; clear hZ1 hW1
      have hg1s := g1.size
      have hc01 : Chg (fun b => b = w3.heap.size) W0 W1 := g1.trans (Chg.of_below (O := fun b => b = w3.heap.size) hB1) (fun _ h _ => h)
      have hBW1 : Below w.heap.size w W1 := hBW0.trans ⟨hc01.os, hc01.tape, hc01.output, hc01.size, fun y hy => hc01.block y (by omega) (by omega)⟩
      have q71 := boxed_chg q70 hc01 (by omega)
      have q81 := boxed_chg q80 hc01 (by omega)
      have q61 := boxed_chg q60 hc01 (by omega)
      have q51 := boxed_chg q50 hc01 (by omega)
      clear c10 c8 cT c5 z1
      have hF1 : ∀ Wx, Below W1.heap.size W1 Wx → Calls Tryz.prog 14 #[.pointer a] Wx fun e w' => ∃ v cs, e = .returned v ∧ FilesAt w' Wx.heap.size (Wx.heap.size + 1) v cs L ∧ Below Wx.heap.size Wx w' := fun Wx hW => hF Wx (hBW1.trans (hW.mono hBW1.size))
      refine (wpIn_wide (n := 6)).1 ?_
      refine wpIn_rangeFunc_ownF rfl (by omega) (gf := 69) (lb := #[.pointer (some ⟨w0.heap.size, 0, none⟩)]) rfl trivial (enters_of Tryz.func69 (by kernel_rfl) rfl)
        (all1_stops 5 (by omega) hL hF1 q71 0 (fun t => t = 56) rfl) (fun h k => h.trans k) (fun Wx l o o' hl ho hc _ => KpT.putObj Wx l o o' (by omega) ho hc) (Below.refl _ _) (fun _ => rfl)
        (fun pre Wx => Chg (fun b => b = (W.heap.size + 1)) W1 Wx ∧ Boxed Wx (W.heap.size + 1) 3 (.int .i64 pre.length))
        (fun c pre Wx => (c = .ret ∧ ¬ pre <+: List.finRange L.length))
        ?_ ?_ ?_ ?_ ?_ ?_ ?_ ?_
      case refine_5 => intro l x Wx K hK; simp only [itemA]; gi_wp2; exact hK
      case refine_3 => exact ⟨Chg.refl _ _, h101⟩
      case refine_1 =>
        rintro s Wx Wx' row ⟨g1, g2⟩ hg hr
        exact ⟨g1.from hg (Nat.le_refl _) hr, boxed_own g2 hg hr⟩
      case refine_2 =>
        rintro c s Wx Wx' row h hg hr
        exact h
      case refine_6 =>
        rintro l pre x Wx ⟨g1, g2⟩ hpl
        obtain ⟨y, hy⟩ : ∃ y, L[pre.length]? = some y := ⟨L[pre.length]'hpl, by simp⟩
        obtain ⟨fbk, fof, rfl, hcells⟩ := hrd3 (fun e => by
          have h0 : L.length = 0 := by rw [e]; rfl
          omega)
        obtain ⟨n1, ua, uc, u1, _⟩ := hcells pre.length y hy
        clear hcells
        have hfl : fbk < w3.heap.size := cell_lt n1
        have m1 := g1.cell (hc01.cell ((hB0.cell (p := ⟨fbk, fof + pre.length * 2, none⟩) hfl).trans n1) (by show ¬ fbk = w3.heap.size; omega)) (by show ¬ fbk = (W.heap.size + 1); omega)
        have m2 := g1.cell (hc01.cell ((hB0.cell (p := ⟨fbk, fof + pre.length * 2 + 1, none⟩) hfl).trans u1) (by show ¬ fbk = w3.heap.size; omega)) (by show ¬ fbk = (W.heap.size + 1); omega)
        have c8 := (boxed_chg (q81) g1 (by omega)).cell
        have cT := (boxed_chg (q91) g1 (by omega)).cell
        have r6 := boxed_chg (q61) g1 (by omega)
        have c6 := r6.cell; have f6 := r6.frozen
        have c5 := (boxed_chg (q51) g1 (by omega)).cell
        have c10 := g2.cell; have f10 := g2.frozen
        have hx : L[x.1]? = some L[x] := by simp
        have hpx : x.1 = pre.length → L[x] = y := fun e => Option.some.inj (hx.symm.trans ((congrArg (fun k => L[k]?) e).trans hy))
        have z0 : decide ((L.length : Int) ≤ (pre.length : Int)) = false := by simp; omega
        have j0 : (0 : Int) ≤ (pre.length : Int) := by omega
        have j1 : (pre.length : Int) < (L.length : Int) := by omega
        generalize L[x] = z at *
        unfold sv at m1 ⊢
        have HPX := Lib.hid hpx; clear hpx hx hy n1 u1
        by_cases e1 : z.1 = y.1
        · have y1 : (z.1 == y.1) = true := by simpa using e1
          have y2 : (z.1 != y.1) = false := by simpa using e1
          by_cases e2 : z.2.length = y.2.length
          · have y3 : ((z.2.length : Int) == (y.2.length : Int)) = true := by simp [e2]
            have y4 : ((z.2.length : Int) != (y.2.length : Int)) = false := by simp [e2]
            clear e1 e2
            have hlen1 : ((pre ++ [x]).length : Int) = (pre.length : Int) + 1 := by simp
            have hc2 : Chg (fun b => b = (W.heap.size + 1)) W1 (Wx.setCell ⟨(W.heap.size + 1), 0, none⟩ (.int .i64 ((pre.length : Int) + 1))) := g1.trans (Chg.set (O := fun b => b = (W.heap.size + 1)) _ rfl) (fun _ h _ => h)
            have hb2' := Boxed.set (.int .i64 ((pre.length : Int) + 1)) g2
            have hkt : KpT 0 (fun t => t = 56) Wx (Wx.setCell ⟨(W.heap.size + 1), 0, none⟩ (.int .i64 ((pre.length : Int) + 1))) := KpT.set_int Wx g2 (by decide) rfl
            have hko := KeepsOthers.setCell Wx ⟨(W.heap.size + 1), 0, none⟩ (.int .i64 ((pre.length : Int) + 1))
            have c5' := (boxed_chg (q51) hc2 (by omega)).cell
            have cT' := (boxed_chg (q91) hc2 (by omega)).cell
            have c10' := hb2'.cell
            have HB := Lib.hid hb2'; have HC := Lib.hid hc2; have HK := Lib.hid hkt; have HO := Lib.hid hko; have HL1 := Lib.hid hlen1
            clear hb2' hc2 hkt hko hlen1
            gi_wp2
            exact ⟨HO.out, HK.out, HC.out, by rw [HL1.out]; exact HB.out⟩
          · have y3 : ((z.2.length : Int) == (y.2.length : Int)) = false := by simp; omega
            have y4 : ((z.2.length : Int) != (y.2.length : Int)) = true := by simp; omega
            have HNP : Hid (¬ (pre ++ [x] <+: List.finRange L.length)) := Lib.hid (fun h => e2 (by rw [HPX.out (fin_prefix h)]))
            clear e1 e2
            gi_wp2
            exact ⟨KeepsOthers.setCell _ _ _, ⟨rfl, HNP.out⟩⟩
        · have y1 : (z.1 == y.1) = false := by simpa using e1
          have y2 : (z.1 != y.1) = true := by simpa using e1
          have HNP : Hid (¬ (pre ++ [x] <+: List.finRange L.length)) := Lib.hid (fun h => e1 (by rw [HPX.out (fin_prefix h)]))
          clear e1
          gi_wp2
          exact ⟨KeepsOthers.setCell _ _ _, ⟨rfl, HNP.out⟩⟩
      case refine_7 =>
        rintro D2 xs Wa hD2 rfl ⟨g1', g2'⟩ hK2
        rw [List.length_finRange] at g2'
        have c10 := g2'.cell
        have c8 := (boxed_chg q81 g1' (by omega)).cell
        have cT := (boxed_chg q91 g1' (by omega)).cell
        have c5 := (boxed_chg q51 g1' (by omega)).cell
        have z1 : ((L.length : Int) != (L.length : Int)) = false := by simp
        have hD2lt : D2 < Wa.heap.size := (Array.getElem?_eq_some_iff.1 hK2).1
        have hg1s' := g1'.size
        have k6 : Boxed (Wa.alloc (.cells #[.int .i64 2] 3)) (w.heap.size + 1) 4 (.bool false) := (boxed_chg q61 g1' (by omega)).alloc _
        have hK1a : Wa.heap[Dd]? = some (.deferred (some [])) := (g1'.block Dd (by omega) (by omega)).trans hK1
        have hDne : D2 ≠ Dd := fun e => by
          have h1 := hD2
          omega
        have hbA : Below w.heap.size w Wa := hBW1.trans ⟨g1'.os, g1'.tape, g1'.output, g1'.size, fun y hy => g1'.block y (by have := hBW1.size; omega) (by have := hBW0.size; omega)⟩
        go_wp2_with fail
        rw [rounds_succ]
        have c6g := k6.cell
        have f6g := k6.frozen
        have hK2g : ((Wa.alloc (.cells #[.int .i64 2] 3)).setCell ⟨w.heap.size + 1, 0, none⟩ (.bool true)).heap[D2]? = some (.deferred (some [])) := (Below.heap_setCell _ _ _ _ (by show D2 ≠ w.heap.size + 1; intro e; rw [e] at hK2; have h := (boxed_chg q61 g1' (by omega)); rw [show Wa.heap[w.heap.size + 1]? = _ from h] at hK2; cases hK2)).trans ((Below.heap_alloc _ _ _ hD2lt).trans hK2)
        have hK1g : ((Wa.alloc (.cells #[.int .i64 2] 3)).setCell ⟨w.heap.size + 1, 0, none⟩ (.bool true)).heap[Dd]? = some (.deferred (some [])) := (Below.heap_setCell _ _ _ _ (by show Dd ≠ w.heap.size + 1; intro e; rw [e] at hK1a; have h := (boxed_chg q61 g1' (by omega)); rw [show Wa.heap[w.heap.size + 1]? = _ from h] at hK1a; cases hK1a)).trans ((Below.heap_alloc _ _ _ (by omega)).trans hK1a)
        have kset := Boxed.set (.bool true) k6
        have hbelg : Below w.heap.size w ((Wa.alloc (.cells #[.int .i64 2] 3)).setCell ⟨w.heap.size + 1, 0, none⟩ (.bool true)) := (hbA.alloc hbA.size _).setCell (p := ⟨w.heap.size + 1, 0, none⟩) (by show w.heap.size ≤ w.heap.size + 1; omega) _
        go_wp2
        generalize hWz : (Wa.alloc (.cells #[.int .i64 2] 3)).setCell ⟨w.heap.size + 1, 0, none⟩ (.bool true) = wz at *
        refine ⟨by simp, .inl ⟨D2, _, rfl, run_takeDeferred hK2g, ⟨by simp, .inl ⟨Dd, _, rfl, run_takeDeferred ((World.putObj_heap_other (by omega)).trans hK1g), ?_⟩⟩⟩⟩
        have hcz : ((wz.putObj D2 (.deferred none)).putObj Dd (.deferred none)).cell? ⟨w.heap.size + 1, 0, none⟩ = some (.bool true) := by
          have e : ((wz.putObj D2 (.deferred none)).putObj Dd (.deferred none)).heap[w.heap.size + 1]? = wz.heap[w.heap.size + 1]? := (World.putObj_heap_other (by intro e; rw [← e, show wz.heap[w.heap.size + 1]? = _ from kset] at hK1g; cases hK1g)).trans (World.putObj_heap_other (by intro e; rw [← e, show wz.heap[w.heap.size + 1]? = _ from kset] at hK2g; cases hK2g))
          exact (World.cell?_of_block (a := ⟨w.heap.size + 1, 0, none⟩) e).trans kset.cell
        have hbz : Below w.heap.size w ((wz.putObj D2 (.deferred none)).putObj Dd (.deferred none)) := hbelg.trans ⟨rfl, rfl, rfl, by simp, fun b hb => (World.putObj_heap_other (by omega)).trans (World.putObj_heap_other (by omega))⟩
        exact ⟨.bool true, by simp [results, Tryz.results20, go_sem, hcz], rfl, hbz⟩
      case refine_8 =>
        rintro D2 c pre W' _ hSp ⟨_, h⟩ _
        exact absurd hSp h
  case refine_8 =>
    rintro Dd c pre W hD hSp h hK
    rcases h with ⟨_, h⟩ | ⟨rfl, hlv, hpos, g1, g2⟩
    · exact absurd hSp h
    have hple : pre.length ≤ L.length := by have := hSp.length_le; simpa using this
    have c10 := g2.cell
    have c8 := (boxed_chg q80 g1 (by omega)).cell
    have cT := (boxed_chg q90 g1 (by omega)).cell
    have c5 := (boxed_chg q50 g1 (by omega)).cell
    have l1 : decide (0 < leave) = true := by simpa using hpos
    have l2 : decide (leave ≤ 0) = false := by simp; omega
    have l3 : min leave (L.length : Int) = leave := by omega
    have z1 : ((pre.length : Int) != leave) = false := by simpa using hlv
    have HLV := Lib.hid hlv; clear hlv hpos
    refine wpIn_wide.2 ?_
    go_wp2_with fail
    clear l1 l2 l3
    rw [rounds_succ]
    go_wp2_with fail
    obtain ⟨W1, hW1⟩ : ∃ W1, (W.alloc (.cells #[.int .i64 1] 3)).alloc (.cells #[.int .i64 0] 3) = W1 := ⟨_, rfl⟩
    have hDlt : Dd < W.heap.size := (Array.getElem?_eq_some_iff.1 hK).1
    have hB1 : Below W.heap.size W W1 := by rw [← hW1]; exact (below_alloc _ _).alloc (by simp) _
    have hZ1 : W1.heap.size = W.heap.size + 1 + 1 := by rw [← hW1]; simp
    have q91 : Boxed W1 W.heap.size 3 (.int .i64 1) := by rw [← hW1]; exact (Boxed.new _ _ _).alloc _
    have h101 : Boxed W1 (W.heap.size + 1) 3 (.int .i64 0) := by rw [← hW1]; have := Boxed.new (W.alloc (.cells #[.int .i64 1] 3)) 3 (.int .i64 0); rwa [World.size_alloc] at this
    have hK1 : W1.heap[Dd]? = some (.deferred (some [])) := (hB1.block Dd hDlt).trans hK
    rw [hW1]
    have hZ1' : W.heap.size + 1 < W1.heap.size := by omega
    have HZ1 := Lib.hid hZ1; clear hZ1 hW1
    have hg1s := g1.size
    have hc01 : Chg (fun b => b = w3.heap.size) W0 W1 := g1.trans (Chg.of_below (O := fun b => b = w3.heap.size) hB1) (fun _ h _ => h)
    have hBW1 : Below w.heap.size w W1 := hBW0.trans ⟨hc01.os, hc01.tape, hc01.output, hc01.size, fun y hy => hc01.block y (by omega) (by omega)⟩
    have q71 := boxed_chg q70 hc01 (by omega)
    have q81 := boxed_chg q80 hc01 (by omega)
    have q61 := boxed_chg q60 hc01 (by omega)
    have q51 := boxed_chg q50 hc01 (by omega)
    clear c10 c8 cT c5 z1
    have hF1 : ∀ Wx, Below W1.heap.size W1 Wx → Calls Tryz.prog 14 #[.pointer a] Wx fun e w' => ∃ v cs, e = .returned v ∧ FilesAt w' Wx.heap.size (Wx.heap.size + 1) v cs L ∧ Below Wx.heap.size Wx w' := fun Wx hW => hF Wx (hBW1.trans (hW.mono hBW1.size))
    refine (wpIn_wide (n := 6)).1 ?_
    refine wpIn_rangeFunc_ownF rfl (by omega) (gf := 69) (lb := #[.pointer (some ⟨w0.heap.size, 0, none⟩)]) rfl trivial (enters_of Tryz.func69 (by kernel_rfl) rfl)
      (all1_stops 5 (by omega) hL hF1 q71 0 (fun t => t = 56) rfl) (fun h k => h.trans k) (fun Wx l o o' hl ho hc _ => KpT.putObj Wx l o o' (by omega) ho hc) (Below.refl _ _) (fun _ => rfl)
      (fun pre Wx => Chg (fun b => b = (W.heap.size + 1)) W1 Wx ∧ Boxed Wx (W.heap.size + 1) 3 (.int .i64 pre.length))
      (fun c pre Wx => (c = .ret ∧ ¬ pre <+: List.finRange L.length))
      ?_ ?_ ?_ ?_ ?_ ?_ ?_ ?_
    case refine_5 => intro l x Wx K hK; simp only [itemA]; gi_wp2; exact hK
    case refine_3 => exact ⟨Chg.refl _ _, h101⟩
    case refine_1 =>
      rintro s Wx Wx' row ⟨g1, g2⟩ hg hr
      exact ⟨g1.from hg (Nat.le_refl _) hr, boxed_own g2 hg hr⟩
    case refine_2 =>
      rintro c s Wx Wx' row h hg hr
      exact h
    case refine_6 =>
      rintro l pre x Wx ⟨g1, g2⟩ hpl
      obtain ⟨y, hy⟩ : ∃ y, L[pre.length]? = some y := ⟨L[pre.length]'hpl, by simp⟩
      obtain ⟨fbk, fof, rfl, hcells⟩ := hrd3 (fun e => by
        have h0 : L.length = 0 := by rw [e]; rfl
        omega)
      obtain ⟨n1, ua, uc, u1, _⟩ := hcells pre.length y hy
      clear hcells
      have hfl : fbk < w3.heap.size := cell_lt n1
      have m1 := g1.cell (hc01.cell ((hB0.cell (p := ⟨fbk, fof + pre.length * 2, none⟩) hfl).trans n1) (by show ¬ fbk = w3.heap.size; omega)) (by show ¬ fbk = (W.heap.size + 1); omega)
      have m2 := g1.cell (hc01.cell ((hB0.cell (p := ⟨fbk, fof + pre.length * 2 + 1, none⟩) hfl).trans u1) (by show ¬ fbk = w3.heap.size; omega)) (by show ¬ fbk = (W.heap.size + 1); omega)
      have c8 := (boxed_chg (q81) g1 (by omega)).cell
      have cT := (boxed_chg (q91) g1 (by omega)).cell
      have r6 := boxed_chg (q61) g1 (by omega)
      have c6 := r6.cell; have f6 := r6.frozen
      have c5 := (boxed_chg (q51) g1 (by omega)).cell
      have c10 := g2.cell; have f10 := g2.frozen
      have hx : L[x.1]? = some L[x] := by simp
      have hpx : x.1 = pre.length → L[x] = y := fun e => Option.some.inj (hx.symm.trans ((congrArg (fun k => L[k]?) e).trans hy))
      have z0 : decide ((L.length : Int) ≤ (pre.length : Int)) = false := by simp; omega
      have j0 : (0 : Int) ≤ (pre.length : Int) := by omega
      have j1 : (pre.length : Int) < (L.length : Int) := by omega
      generalize L[x] = z at *
      unfold sv at m1 ⊢
      have HPX := Lib.hid hpx; clear hpx hx hy n1 u1
      by_cases e1 : z.1 = y.1
      · have y1 : (z.1 == y.1) = true := by simpa using e1
        have y2 : (z.1 != y.1) = false := by simpa using e1
        by_cases e2 : z.2.length = y.2.length
        · have y3 : ((z.2.length : Int) == (y.2.length : Int)) = true := by simp [e2]
          have y4 : ((z.2.length : Int) != (y.2.length : Int)) = false := by simp [e2]
          clear e1 e2
          have hlen1 : ((pre ++ [x]).length : Int) = (pre.length : Int) + 1 := by simp
          have hc2 : Chg (fun b => b = (W.heap.size + 1)) W1 (Wx.setCell ⟨(W.heap.size + 1), 0, none⟩ (.int .i64 ((pre.length : Int) + 1))) := g1.trans (Chg.set (O := fun b => b = (W.heap.size + 1)) _ rfl) (fun _ h _ => h)
          have hb2' := Boxed.set (.int .i64 ((pre.length : Int) + 1)) g2
          have hkt : KpT 0 (fun t => t = 56) Wx (Wx.setCell ⟨(W.heap.size + 1), 0, none⟩ (.int .i64 ((pre.length : Int) + 1))) := KpT.set_int Wx g2 (by decide) rfl
          have hko := KeepsOthers.setCell Wx ⟨(W.heap.size + 1), 0, none⟩ (.int .i64 ((pre.length : Int) + 1))
          have c5' := (boxed_chg (q51) hc2 (by omega)).cell
          have cT' := (boxed_chg (q91) hc2 (by omega)).cell
          have c10' := hb2'.cell
          have HB := Lib.hid hb2'; have HC := Lib.hid hc2; have HK := Lib.hid hkt; have HO := Lib.hid hko; have HL1 := Lib.hid hlen1
          clear hb2' hc2 hkt hko hlen1
          gi_wp2
          exact ⟨HO.out, HK.out, HC.out, by rw [HL1.out]; exact HB.out⟩
        · have y3 : ((z.2.length : Int) == (y.2.length : Int)) = false := by simp; omega
          have y4 : ((z.2.length : Int) != (y.2.length : Int)) = true := by simp; omega
          have HNP : Hid (¬ (pre ++ [x] <+: List.finRange L.length)) := Lib.hid (fun h => e2 (by rw [HPX.out (fin_prefix h)]))
          clear e1 e2
          gi_wp2
          exact ⟨KeepsOthers.setCell _ _ _, ⟨rfl, HNP.out⟩⟩
      · have y1 : (z.1 == y.1) = false := by simpa using e1
        have y2 : (z.1 != y.1) = true := by simpa using e1
        have HNP : Hid (¬ (pre ++ [x] <+: List.finRange L.length)) := Lib.hid (fun h => e1 (by rw [HPX.out (fin_prefix h)]))
        clear e1
        gi_wp2
        exact ⟨KeepsOthers.setCell _ _ _, ⟨rfl, HNP.out⟩⟩
    case refine_7 =>
      rintro D2 xs Wa hD2 rfl ⟨g1', g2'⟩ hK2
      rw [List.length_finRange] at g2'
      have c10 := g2'.cell
      have c8 := (boxed_chg q81 g1' (by omega)).cell
      have cT := (boxed_chg q91 g1' (by omega)).cell
      have c5 := (boxed_chg q51 g1' (by omega)).cell
      have z1 : ((L.length : Int) != (L.length : Int)) = false := by simp
      have hD2lt : D2 < Wa.heap.size := (Array.getElem?_eq_some_iff.1 hK2).1
      have hg1s' := g1'.size
      have k6 : Boxed (Wa.alloc (.cells #[.int .i64 2] 3)) (w.heap.size + 1) 4 (.bool false) := (boxed_chg q61 g1' (by omega)).alloc _
      have hK1a : Wa.heap[Dd]? = some (.deferred (some [])) := (g1'.block Dd (by omega) (by omega)).trans hK1
      have hDne : D2 ≠ Dd := fun e => by
        have h1 := hD2
        omega
      have hbA : Below w.heap.size w Wa := hBW1.trans ⟨g1'.os, g1'.tape, g1'.output, g1'.size, fun y hy => g1'.block y (by have := hBW1.size; omega) (by have := hBW0.size; omega)⟩
      go_wp2_with fail
      rw [rounds_succ]
      have c6g := k6.cell
      have f6g := k6.frozen
      have hK2g : ((Wa.alloc (.cells #[.int .i64 2] 3)).setCell ⟨w.heap.size + 1, 0, none⟩ (.bool true)).heap[D2]? = some (.deferred (some [])) := (Below.heap_setCell _ _ _ _ (by show D2 ≠ w.heap.size + 1; intro e; rw [e] at hK2; have h := (boxed_chg q61 g1' (by omega)); rw [show Wa.heap[w.heap.size + 1]? = _ from h] at hK2; cases hK2)).trans ((Below.heap_alloc _ _ _ hD2lt).trans hK2)
      have hK1g : ((Wa.alloc (.cells #[.int .i64 2] 3)).setCell ⟨w.heap.size + 1, 0, none⟩ (.bool true)).heap[Dd]? = some (.deferred (some [])) := (Below.heap_setCell _ _ _ _ (by show Dd ≠ w.heap.size + 1; intro e; rw [e] at hK1a; have h := (boxed_chg q61 g1' (by omega)); rw [show Wa.heap[w.heap.size + 1]? = _ from h] at hK1a; cases hK1a)).trans ((Below.heap_alloc _ _ _ (by omega)).trans hK1a)
      have kset := Boxed.set (.bool true) k6
      have hbelg : Below w.heap.size w ((Wa.alloc (.cells #[.int .i64 2] 3)).setCell ⟨w.heap.size + 1, 0, none⟩ (.bool true)) := (hbA.alloc hbA.size _).setCell (p := ⟨w.heap.size + 1, 0, none⟩) (by show w.heap.size ≤ w.heap.size + 1; omega) _
      go_wp2
      generalize hWz : (Wa.alloc (.cells #[.int .i64 2] 3)).setCell ⟨w.heap.size + 1, 0, none⟩ (.bool true) = wz at *
      refine ⟨by simp, .inl ⟨D2, _, rfl, run_takeDeferred hK2g, ⟨by simp, .inl ⟨Dd, _, rfl, run_takeDeferred ((World.putObj_heap_other (by omega)).trans hK1g), ?_⟩⟩⟩⟩
      have hcz : ((wz.putObj D2 (.deferred none)).putObj Dd (.deferred none)).cell? ⟨w.heap.size + 1, 0, none⟩ = some (.bool true) := by
        have e : ((wz.putObj D2 (.deferred none)).putObj Dd (.deferred none)).heap[w.heap.size + 1]? = wz.heap[w.heap.size + 1]? := (World.putObj_heap_other (by intro e; rw [← e, show wz.heap[w.heap.size + 1]? = _ from kset] at hK1g; cases hK1g)).trans (World.putObj_heap_other (by intro e; rw [← e, show wz.heap[w.heap.size + 1]? = _ from kset] at hK2g; cases hK2g))
        exact (World.cell?_of_block (a := ⟨w.heap.size + 1, 0, none⟩) e).trans kset.cell
      have hbz : Below w.heap.size w ((wz.putObj D2 (.deferred none)).putObj Dd (.deferred none)) := hbelg.trans ⟨rfl, rfl, rfl, by simp, fun b hb => (World.putObj_heap_other (by omega)).trans (World.putObj_heap_other (by omega))⟩
      exact ⟨.bool true, by simp [results, Tryz.results20, go_sem, hcz], rfl, hbz⟩
    case refine_8 =>
      rintro D2 c pre W' _ hSp ⟨_, h⟩ _
      exact absurd hSp h

end Go.Proofs.YtgckcnnnblggbaaGreat
