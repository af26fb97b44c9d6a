/- Texts of this claim, one behind the other: FaO. -/
import Derived.Test.YtehmnmpkfbginaaGreatFc28
import Derived.Deep.CutBlock
set_option linter.unusedSimpArgs false
set_option linter.unusedVariables false
/- FaultClear: the walk. -/
namespace Go.Proofs.YtehmnmpkfbginaaGreat
open Go.RowKit Go.Maps

/-- has the device been stopped ahead of step k? -/
def offAt (at_ : Int) (k : Nat) : Bool := decide (0 ≤ at_) && decide (at_ < k)
/-- the loop's state ahead of step k -/
def At5 (w0 w : World) (pf pd po : Nat) (n : Nat) (at_ : Int) (k : Nat) : Prop := ∃ f s, Side5 w0 w pf pd po f s (fun _ => False) ∧ Clear f s k (offAt at_ k) ∧ s.Ok (n + k)

section
variable {w0 w : World} {pf pd po n : Nat} {f : FSt} {s : DSt} {at_ : Int} {k : Nat}
/-- the end: the files and the room are the same -/
def Some5 (w : World) (L : List (List UInt8 × List UInt8)) (e : Ending) (w' : World) : Prop := ∃ a c, e = .returned (.slice a L.length c) ∧ FilesRd w' a L ∧ Below w.heap.size w w'
theorem Has.files5 {lo p N : Nat} (h : Has lo w p s) (hok : s.Ok N) (hN : N < maxList) : Calls Tryz.prog 12 #[.pointer (some ⟨p, 0, none⟩)] w (Some5 w s.all) := by
  refine (h.files hok hN).mono ?_
  rintro _ w' ⟨v, cs, rfl, hf, hb⟩
  obtain ⟨a, c, rfl, hr⟩ := FilesRd.of_at hf
  exact ⟨a, c, rfl, hr, hb⟩
theorem At5.on {w' : World} {T : Nat → Prop} {x : AOp} (h : Side5 w0 w' pf pd po (stepF x f).1 (stepD x s).1 T) (hc : Clear f s k false) (hok : s.Ok (n + k)) (hat : offAt at_ (k + 1) = false) : At5 w0 w' pf pd po n at_ (k + 1) :=
  ⟨_, _, h.anyT, by rw [hat]; exact (hc.step_on x).2, stepD_ok hok x⟩
theorem At5.off {w' : World} {T : Nat → Prop} {x : AOp} (h : Side5 w0 w' pf pd po (stepF x f).1 s T) (hc : Clear f s k true) (hok : s.Ok (n + k)) (hat : offAt at_ (k + 1) = true) : At5 w0 w' pf pd po n at_ (k + 1) :=
  ⟨_, _, h.anyT, by rw [hat]; exact (hc.step_off x).2, hok.mono (by omega)⟩
end
theorem plan_none (w : World) : planIn w none [] := ⟨Nat.zero_le _, fun t ht => (by cases ht), RowAt.nil _ _⟩
set_option maxRecDepth 100000 in
set_option maxHeartbeats 16000000 in
theorem faultClear_walk {w : World} {cap halt at_ : Int} {fa ua oa : Option Addr} {fc ul uc oc : Nat} {L : List (List UInt8 × List UInt8)} {xs : List AOp}
    (hA : FilesArg w fa L) (hxs : AOpsArg w oa xs) (hxo : ∀ x ∈ xs, x.Ok) (hLn : ∀ p ∈ L, p.1.length ≤ maxLen) (hLM : ∀ p ∈ L, p.2.length ≤ 1048576) (hbulk : L.length + xs.length ≤ 1048574) :
    Calls Tryz.prog 3 #[.agg #[.int .i64 cap, .slice fa L.length fc, .slice ua ul uc, .int .i64 halt], .slice oa xs.length oc, .int .i64 at_] w fun e w' => e = .returned (.bool true) ∧ Below w.heap.size w w' := by
  have hmx : maxList = 4194304 := rfl
  have hmax : maxLen = 9223372036854775807 := rfl
  have hmf : maxFile = 1099511627776 := rfl
  obtain ⟨w0, hw0⟩ : ∃ w0, w.alloc (.cells #[.int .i64 cap, .slice fa L.length fc, .slice ua ul uc, .int .i64 halt] 27) = w0 := ⟨_, rfl⟩
  have hb0 : Below w.heap.size w w0 := by rw [← hw0]; exact below_alloc w _
  have hz0 : w0.heap.size = w.heap.size + 1 := by rw [← hw0]; simp
  have b3 : w0.heap[w.heap.size]? = some (.cells #[.int .i64 cap, .slice fa L.length fc, .slice ua ul uc, .int .i64 halt] 27 (0, 0)) := by rw [← hw0]; exact World.alloc_heap_new w _
  have c0 := cell_of_heap b3 (i := 0) (v := .int .i64 cap) (by rfl)
  have c1 := cell_of_heap b3 (i := 1) (v := .slice fa L.length fc) (by rfl)
  have cN := num5_any
  have hA0 := hA.below hb0
  have hX0 := hxs.below hb0
  have hgr := great_any hA0 (by omega) hLM (c := fc)
  have hw5 := works5_any w0
  have h1 := of5_any (cap := cap) (c := fc) hA0 (by omega) (fun p hp => by have := hLM p hp; omega) hLn
  obtain ⟨o, ho⟩ : ∃ o, of5 cap L = o := ⟨_, rfl⟩
  have hso : ∀ s, o = some s → s.Ok L.length := fun s e => of5_ok (fun p hp => by have := hLM p hp; omega) (ho.trans e)
  have h2 : ∀ w1, Below w0.heap.size w0 w1 → Calls Tryz.prog 6 #[.int .i64 cap, .slice fa L.length fc] w1 (Of5 w1 o) := fun w1 hb => by rw [← ho]; exact of5_any (hA0.below hb) (by omega) (fun p hp => by have := hLM p hp; omega) hLn
  rw [ho] at h1
  clear ho
  have HW := Lib.hid hw0
  have HZ := Lib.hid hz0
  have HB0 := Lib.hid hb0
  have HX := Lib.hid hX0
  have HXO := Lib.hid hxo
  have HLM := Lib.hid hLM
  have HA := Lib.hid (And.intro hA0 hLn)
  clear hw0 hz0 hb0 b3 hX0 hxs hxo hA hA0
  have HS := Lib.hid hso
  clear hso
  cases o with
  | none =>
    have H2 := Lib.hid h2
    clear h2
    go_enter Tryz.func3, Tryz.ntmps3
    go_wp2_with (first
      | rw [HW.out]
      | (go_at_call 4; refine hgr.mono ?_; rintro _ w1 ⟨gb, rfl, rfl⟩)
      | (go_at_call 7; refine (cN _ _).mono ?_; rintro _ wn ⟨rfl, rfl⟩)
      | (go_at_call 5; (first | (with_reducible refine hw5.mono ?_) | (with_reducible refine (works5_any _).mono ?_)); rintro _ w9 ⟨rfl, hb9⟩)
      | (go_at_call 6; (with_reducible refine h1.mono ?_); rintro _ w1 ⟨rfl, hb1⟩; have hz1 := hb1.size; have d0 := (hb1.cell (p := ⟨w.heap.size, 0, none⟩) (cell_lt c0)).trans c0; have d1 := (hb1.cell (p := ⟨w.heap.size, 1, none⟩) (cell_lt c1)).trans c1; have h3 := H2.out w1 hb1)
      | (go_at_call 6; (with_reducible refine h3.mono ?_); rintro _ w2 ⟨rfl, hb2⟩))
    · go_ret
      exact ⟨rfl, HB0.out.trans (hb9.mono HB0.out.size)⟩
    · go_ret
      exact ⟨rfl, bthen HB0.out (bthen hb1 (bthen hb2 hb9))⟩
  | some s0 =>
    have H2 := Lib.hid h2
    clear h2
    have hok0 := HS.out s0 rfl
    go_enter Tryz.func3, Tryz.ntmps3
    go_wp2_with (first
      | rw [HW.out]
      | (go_at_call 4; refine hgr.mono ?_; rintro _ w1 ⟨gb, rfl, rfl⟩)
      | (go_at_call 7; refine (cN _ _).mono ?_; rintro _ wn ⟨rfl, rfl⟩)
      | (go_at_call 5; refine hw5.mono ?_; rintro _ w9 ⟨rfl, hb9⟩)
      | (go_at_call 6; (with_reducible refine h1.mono ?_); rintro _ w1 ⟨⟨pd, F1, G1, rfl, hO1, hF1, hG1⟩, hb1⟩; have hz1 := hb1.size; have d0 := (hb1.cell (p := ⟨w.heap.size, 0, none⟩) (cell_lt c0)).trans c0; have d1 := (hb1.cell (p := ⟨w.heap.size, 1, none⟩) (cell_lt c1)).trans c1; have h3 := H2.out w1 hb1)
      | (go_at_call 6; (with_reducible refine h3.mono ?_); rintro _ w2 ⟨⟨po, F2, G2, rfl, hO2, hF2, hG2⟩, hb2⟩; have hz2 := hb2.size; have hfn := fnew_any (hO1.below hb2) hok0 (by omega) (a := none) (c := 0) (l := []) (plan_none w2) (halt := -1) (by decide))
      | (go_at_call 8; refine hfn.mono ?_; rintro _ w3 ⟨pf, F3, rfl, hf, hF3, hb3⟩))
    · go_ret
      exact ⟨rfl, bthen HB0.out hb9⟩
    · have hP0 : At5 w0 w3 pf pd po L.length at_ 0 := ⟨_, s0, Side5.start hb1 hF1 hG1 hO2 (hb1.trans (hb2.mono hz1)) hF2 hG2 hf hF3 hb3, ⟨rfl, rfl, rfl, Nat.zero_le _, by unfold offAt; simp⟩, hok0⟩
      have HB := Lib.hid (And.intro hb1 hb2)
      clear hb1 hb2 hb3 hf hF3 hfn hO1 hO2 hF1 hF2 hG1 hG2 h1 h3 hz1 hz2 hgr
      go_loopw [14] (fun i wr => ∃ k : Nat, k ≤ xs.length ∧ i = .int .i64 k ∧ At5 w0 wr pf pd po L.length at_ k) (fun i _ => xs.length - (intOf i).toNat)
      case atStart => exact ⟨0, by omega, rfl, hP0⟩
      case round =>
        obtain ⟨k, hk, rfl, f, s, hS, hC, hOk⟩ := hrel
        by_cases hlt : k < xs.length
        · obtain ⟨x, hx⟩ : ∃ x, xs[k]? = some x := ⟨xs[k], by simp⟩
          obtain ⟨ob, oo, rfl, hcs⟩ := HX.out (fun e => by rw [e] at hlt; simp at hlt)
          obtain ⟨da, dc, hce, hnil, hr0⟩ := hcs k x hx
          have hxo := HXO.out x (List.mem_of_getElem? hx)
          have hbw := hS.bel
          have cc : ∀ (j : Nat) u, (encO x da dc)[j]? = some u → wr.cell? ⟨ob, oo + k * 7 + j, none⟩ = some u := fun j u hu => (hbw.cell (p := ⟨ob, oo + k * 7 + j, none⟩) (cell_lt (hce j u hu))).trans (hce j u hu)
          have q0 : wr.cell? ⟨ob, oo + k * 7, none⟩ = some (.int .i64 x.kind) := cc 0 _ rfl
          have q1 := cc 1 (.int .i64 x.on) rfl
          have q2 := cc 2 (.int .i64 x.n) rfl
          have q3 := cc 3 (.string ⟨x.name.toArray⟩) rfl
          have q4 := cc 4 (.string ⟨x.dst.toArray⟩) rfl
          have q5 := cc 5 (.int .i64 x.at_) rfl
          have q6 := cc 6 (.slice da x.data.length dc) rfl
          have j0 : (0 : Int) ≤ (k : Int) := by omega
          have j1 : (k : Int) < (xs.length : Int) := by omega
          have HCC := Lib.hid (fun (W : World) (hb : Below w0.heap.size w0 W) (j : Nat) u (hu : (encO x da dc)[j]? = some u) => ((hb.cell (p := ⟨ob, oo + k * 7 + j, none⟩) (cell_lt (hce j u hu))).trans (hce j u hu) : W.cell? ⟨ob, oo + k * 7 + j, none⟩ = some u))
          clear hcs hce cc hbw
          by_cases hon : offAt at_ (k + 1) = false
          · have hoff : offAt at_ k = false := by unfold offAt at hon ⊢; simp at hon ⊢; omega
            rw [hoff] at hC
            have g1 : ((k : Int) == at_) = false := by unfold offAt at hon; simp at hon ⊢; omega
            obtain ⟨W2, hW2⟩ : ∃ W2, wr.alloc (.cells (encO x da dc) 44) = W2 := ⟨_, rfl⟩
            have hS2 := hS.new (.cells (encO x da dc) 44)
            have hx2 := World.alloc_heap_new wr (.cells (encO x da dc) 44)
            rw [hW2] at hS2 hx2
            have hd := hC.disk
            have hdv := hS2.dev hxo (hr0.below hS2.bel) hnil (hd ▸ hOk) (by omega) (by have := hC.done; omega) (by rw [hC.full]; simp)
            have hst := hC.step_on x
            have HC := Lib.hid hC
            have HOK := Lib.hid hOk
            unfold encO at hW2 hdv
            rw [hst.1] at hdv
            have HW2 := Lib.hid hW2
            have HX2 := Lib.hid hx2
            have HR := Lib.hid (And.intro hr0 hnil)
            have HON := Lib.hid (And.intro hon hoff)
            have hco : ∀ (w' : World), Side5 w0 w' pf pd po (stepF x f).1 s (fun b => b = wr.heap.size) → Calls Tryz.prog 10 #[.iface 31 (.pointer (some ⟨po, 0, none⟩)), .agg #[.int .i64 x.kind, .int .i64 x.on, .int .i64 x.n, .string ⟨x.name.toArray⟩, .string ⟨x.dst.toArray⟩, .int .i64 x.at_, .slice da x.data.length dc]] w' fun e W => e = .returned (.int .i64 ((stepD x s).2 : Int)) ∧ Side5 w0 W pf pd po (stepF x f).1 (stepD x s).1 (fun b => b = wr.heap.size) := fun w' h => by
              have := h.own hxo (hr0.below h.bel) hnil hOk (by omega)
              unfold encO at this
              exact this.mono fun e W ⟨k1, k2, _⟩ => ⟨k1, k2⟩
            have HCO := Lib.hid hco
            obtain ⟨vr, hvr⟩ : ∃ vr : Int, ((stepD x s).2 : Int) = vr := ⟨_, rfl⟩
            rw [hvr] at hdv
            have HVR := Lib.hid hvr
            have e0 := cell_of_heap hx2 (i := 0) (v := .int .i64 x.kind) (by rfl)
            have e1 := cell_of_heap hx2 (i := 1) (v := .int .i64 x.on) (by rfl)
            have e2 := cell_of_heap hx2 (i := 2) (v := .int .i64 x.n) (by rfl)
            have e3 := cell_of_heap hx2 (i := 3) (v := .string ⟨x.name.toArray⟩) (by rfl)
            have e4 := cell_of_heap hx2 (i := 4) (v := .string ⟨x.dst.toArray⟩) (by rfl)
            have e5 := cell_of_heap hx2 (i := 5) (v := .int .i64 x.at_) (by rfl)
            have e6 := cell_of_heap hx2 (i := 6) (v := .slice da x.data.length dc) (by rfl)
            have g2 : (decide (0 ≤ at_) && decide (at_ ≤ (k : Int))) = false := by unfold offAt at hon; simp at hon ⊢; omega
            have hS := Lib.hid hS
            clear hC hOk hW2 hx2 hr0 hnil hon hoff hco hvr hst hd hx
            by_cases h0 : 0 ≤ at_
            · have g3 : decide (0 ≤ at_) = true := by simpa using h0
              have g4 : decide (at_ ≤ (k : Int)) = false := by rw [g3] at g2; simpa using g2
              clear g2 h0
              go_wp2_with (first
                | rw [HW2.out]
                | (go_at_call 10; (with_reducible refine hdv.mono ?_); rintro _ w5 ⟨rfl, hS5, hT5⟩; have hx5 := hT5 _ _ rfl HX2.out; have f0 := cell_of_heap hx5 (i := 0) (v := .int .i64 x.kind) (by rfl); have f1 := cell_of_heap hx5 (i := 1) (v := .int .i64 x.on) (by rfl); have f2 := cell_of_heap hx5 (i := 2) (v := .int .i64 x.n) (by rfl); have f3 := cell_of_heap hx5 (i := 3) (v := .string ⟨x.name.toArray⟩) (by rfl); have f4 := cell_of_heap hx5 (i := 4) (v := .string ⟨x.dst.toArray⟩) (by rfl); have f5 := cell_of_heap hx5 (i := 5) (v := .int .i64 x.at_) (by rfl); have f6 := cell_of_heap hx5 (i := 6) (v := .slice da x.data.length dc) (by rfl); have hcw := HCO.out w5 hS5; rw [HVR.out] at hcw; clear hT5 hx5)
                | (go_at_call 10; (with_reducible refine hcw.mono ?_); rintro _ w6 ⟨rfl, hS6⟩))
              exact ⟨⟨k + 1, by omega, by go_num, At5.on hS6 HC.out HOK.out HON.out.1⟩, by simp [intOf]; omega⟩
            · have g3 : decide (0 ≤ at_) = false := by simpa using h0
              clear g2 h0
              go_wp2_with (first
                | rw [HW2.out]
                | (go_at_call 10; (with_reducible refine hdv.mono ?_); rintro _ w5 ⟨rfl, hS5, hT5⟩; have hx5 := hT5 _ _ rfl HX2.out; have f0 := cell_of_heap hx5 (i := 0) (v := .int .i64 x.kind) (by rfl); have f1 := cell_of_heap hx5 (i := 1) (v := .int .i64 x.on) (by rfl); have f2 := cell_of_heap hx5 (i := 2) (v := .int .i64 x.n) (by rfl); have f3 := cell_of_heap hx5 (i := 3) (v := .string ⟨x.name.toArray⟩) (by rfl); have f4 := cell_of_heap hx5 (i := 4) (v := .string ⟨x.dst.toArray⟩) (by rfl); have f5 := cell_of_heap hx5 (i := 5) (v := .int .i64 x.at_) (by rfl); have f6 := cell_of_heap hx5 (i := 6) (v := .slice da x.data.length dc) (by rfl); have hcw := HCO.out w5 hS5; rw [HVR.out] at hcw; clear hT5 hx5)
                | (go_at_call 10; (with_reducible refine hcw.mono ?_); rintro _ w6 ⟨rfl, hS6⟩))
              exact ⟨⟨k + 1, by omega, by go_num, At5.on hS6 HC.out HOK.out HON.out.1⟩, by simp [intOf]; omega⟩
          · have hon : offAt at_ (k + 1) = true := by simpa using hon
            have hat : 0 ≤ at_ ∧ at_ ≤ (k : Int) := by unfold offAt at hon; simp at hon; omega
            have g3 : decide (0 ≤ at_) = true := by simpa using hat.1
            have g4 : decide (at_ ≤ (k : Int)) = true := by simpa using hat.2
            -- what the stopped device answers, whoever stopped it
            have hdv : ∀ (W W2 : World) (f' : FSt), Side5 w0 W pf pd po f' s (fun _ => False) → Clear f' s k true → W.alloc (.cells (encO x da dc) 44) = W2 → Calls Tryz.prog 10 #[.iface 36 (.pointer (some ⟨pf, 0, none⟩)), .agg #[.int .i64 x.kind, .int .i64 x.on, .int .i64 x.n, .string ⟨x.name.toArray⟩, .string ⟨x.dst.toArray⟩, .int .i64 x.at_, .slice da x.data.length dc]] W2 fun e W5 => ∃ vr : Int, e = .returned (.int .i64 vr) ∧ (1 ≤ x.kind → x.kind ≤ 7 → vr = 6) ∧ At5 w0 W5 pf pd po L.length at_ (k + 1) ∧ W5.heap[W.heap.size]? = some (.cells (encO x da dc) 44 (0, 0)) := fun W W2 f' hS hC hW2 => by
              have hS2 := hS.new (.cells (encO x da dc) 44)
              have hx2 := World.alloc_heap_new W (.cells (encO x da dc) 44)
              rw [hW2] at hS2 hx2
              have hd := hC.disk
              have := hS2.dev hxo (hr0.below hS2.bel) hnil (hd ▸ hOk) (by omega) (by have := hC.done; omega) (by rw [hC.full]; simp)
              unfold encO at this
              refine this.mono ?_
              rintro e W5 ⟨rfl, hS5, hT5⟩
              exact ⟨_, rfl, (hC.step_off x).1, At5.off hS5 hC hOk hon, by unfold encO; exact hT5 _ _ rfl hx2⟩
            have HDV := Lib.hid hdv
            have HON := Lib.hid hon
            clear hdv hr0 hnil hOk hon
            by_cases hs : (k : Int) = at_
            · have hoff : offAt at_ k = false := by unfold offAt; simp; omega
              rw [hoff] at hC
              have g1 : ((k : Int) == at_) = true := by simpa using hs
              have hst := hS.stop
              have HC := Lib.hid (Clear.stop hC)
              clear hs hat hoff hC hS
              by_cases h17 : 1 ≤ x.kind ∧ x.kind ≤ 7
              · have k1 : decide (1 ≤ x.kind) = true := by simpa using h17.1
                have k2 : decide (x.kind ≤ 7) = true := by simpa using h17.2
                go_wp2_with (first
                  | (go_at_call 9; refine hst.mono ?_; rintro _ w4 ⟨rfl, hS4, _⟩; have p0 : w4.cell? ⟨ob, oo + k * 7, none⟩ = some (.int .i64 x.kind) := HCC.out w4 hS4.bel 0 _ rfl; have p1 := HCC.out w4 hS4.bel 1 (.int .i64 x.on) rfl; have p2 := HCC.out w4 hS4.bel 2 (.int .i64 x.n) rfl; have p3 := HCC.out w4 hS4.bel 3 (.string ⟨x.name.toArray⟩) rfl; have p4 := HCC.out w4 hS4.bel 4 (.string ⟨x.dst.toArray⟩) rfl; have p5 := HCC.out w4 hS4.bel 5 (.int .i64 x.at_) rfl; have p6 := HCC.out w4 hS4.bel 6 (.slice da x.data.length dc) rfl; obtain ⟨W2, hW2⟩ : ∃ W2, w4.alloc (.cells (encO x da dc) 44) = W2 := ⟨_, rfl⟩; have hd2 := HDV.out w4 W2 _ hS4 HC.out hW2; have HX2 := Lib.hid (show W2.heap[w4.heap.size]? = some (.cells (encO x da dc) 44 (0, 0)) by rw [← hW2]; exact World.alloc_heap_new w4 _); have e0 := cell_of_heap HX2.out (i := 0) (v := .int .i64 x.kind) (by rfl); have e1 := cell_of_heap HX2.out (i := 1) (v := .int .i64 x.on) (by rfl); have e2 := cell_of_heap HX2.out (i := 2) (v := .int .i64 x.n) (by rfl); have e3 := cell_of_heap HX2.out (i := 3) (v := .string ⟨x.name.toArray⟩) (by rfl); have e4 := cell_of_heap HX2.out (i := 4) (v := .string ⟨x.dst.toArray⟩) (by rfl); have e5 := cell_of_heap HX2.out (i := 5) (v := .int .i64 x.at_) (by rfl); have e6 := cell_of_heap HX2.out (i := 6) (v := .slice da x.data.length dc) (by rfl); unfold encO at hW2; have HW2 := Lib.hid hW2; clear hW2)
                  | rw [HW2.out]
                  | (go_at_call 7; refine (cN _ _).mono ?_; rintro _ wn ⟨rfl, rfl⟩)
                  | (go_at_call 10; (with_reducible refine hd2.mono ?_); rintro _ w5 ⟨vr, rfl, hvr, hA5, hx5⟩; have hv6 := hvr h17.1 h17.2; subst hv6; clear hvr; have f0 := cell_of_heap hx5 (i := 0) (v := .int .i64 x.kind) (by rfl); have HX5 := Lib.hid hx5; clear hx5))
                exact ⟨⟨k + 1, by omega, by go_num, hA5⟩, by simp [intOf]; omega⟩
              · clear HON
                by_cases h1 : 1 ≤ x.kind
                · have k1 : decide (1 ≤ x.kind) = true := by simpa using h1
                  have k2 : decide (x.kind ≤ 7) = false := by simp; omega
                  clear h17 h1
                  go_wp2_with (first
                    | (go_at_call 9; refine hst.mono ?_; rintro _ w4 ⟨rfl, hS4, _⟩; have p0 : w4.cell? ⟨ob, oo + k * 7, none⟩ = some (.int .i64 x.kind) := HCC.out w4 hS4.bel 0 _ rfl; have p1 := HCC.out w4 hS4.bel 1 (.int .i64 x.on) rfl; have p2 := HCC.out w4 hS4.bel 2 (.int .i64 x.n) rfl; have p3 := HCC.out w4 hS4.bel 3 (.string ⟨x.name.toArray⟩) rfl; have p4 := HCC.out w4 hS4.bel 4 (.string ⟨x.dst.toArray⟩) rfl; have p5 := HCC.out w4 hS4.bel 5 (.int .i64 x.at_) rfl; have p6 := HCC.out w4 hS4.bel 6 (.slice da x.data.length dc) rfl; obtain ⟨W2, hW2⟩ : ∃ W2, w4.alloc (.cells (encO x da dc) 44) = W2 := ⟨_, rfl⟩; have hd2 := HDV.out w4 W2 _ hS4 HC.out hW2; have HX2 := Lib.hid (show W2.heap[w4.heap.size]? = some (.cells (encO x da dc) 44 (0, 0)) by rw [← hW2]; exact World.alloc_heap_new w4 _); have e0 := cell_of_heap HX2.out (i := 0) (v := .int .i64 x.kind) (by rfl); have e1 := cell_of_heap HX2.out (i := 1) (v := .int .i64 x.on) (by rfl); have e2 := cell_of_heap HX2.out (i := 2) (v := .int .i64 x.n) (by rfl); have e3 := cell_of_heap HX2.out (i := 3) (v := .string ⟨x.name.toArray⟩) (by rfl); have e4 := cell_of_heap HX2.out (i := 4) (v := .string ⟨x.dst.toArray⟩) (by rfl); have e5 := cell_of_heap HX2.out (i := 5) (v := .int .i64 x.at_) (by rfl); have e6 := cell_of_heap HX2.out (i := 6) (v := .slice da x.data.length dc) (by rfl); unfold encO at hW2; have HW2 := Lib.hid hW2; clear hW2)
                    | rw [HW2.out]
                    | (go_at_call 7; refine (cN _ _).mono ?_; rintro _ wn ⟨rfl, rfl⟩)
                    | (go_at_call 10; (with_reducible refine hd2.mono ?_); rintro _ w5 ⟨vr, rfl, hvr, hA5, hx5⟩; clear hvr; have f0 := cell_of_heap hx5 (i := 0) (v := .int .i64 x.kind) (by rfl); have HX5 := Lib.hid hx5; clear hx5))
                  exact ⟨⟨k + 1, by omega, by go_num, hA5⟩, by simp [intOf]; omega⟩
                · have k1 : decide (1 ≤ x.kind) = false := by simpa using h1
                  clear h17 h1
                  go_wp2_with (first
                    | (go_at_call 9; refine hst.mono ?_; rintro _ w4 ⟨rfl, hS4, _⟩; have p0 : w4.cell? ⟨ob, oo + k * 7, none⟩ = some (.int .i64 x.kind) := HCC.out w4 hS4.bel 0 _ rfl; have p1 := HCC.out w4 hS4.bel 1 (.int .i64 x.on) rfl; have p2 := HCC.out w4 hS4.bel 2 (.int .i64 x.n) rfl; have p3 := HCC.out w4 hS4.bel 3 (.string ⟨x.name.toArray⟩) rfl; have p4 := HCC.out w4 hS4.bel 4 (.string ⟨x.dst.toArray⟩) rfl; have p5 := HCC.out w4 hS4.bel 5 (.int .i64 x.at_) rfl; have p6 := HCC.out w4 hS4.bel 6 (.slice da x.data.length dc) rfl; obtain ⟨W2, hW2⟩ : ∃ W2, w4.alloc (.cells (encO x da dc) 44) = W2 := ⟨_, rfl⟩; have hd2 := HDV.out w4 W2 _ hS4 HC.out hW2; have HX2 := Lib.hid (show W2.heap[w4.heap.size]? = some (.cells (encO x da dc) 44 (0, 0)) by rw [← hW2]; exact World.alloc_heap_new w4 _); have e0 := cell_of_heap HX2.out (i := 0) (v := .int .i64 x.kind) (by rfl); have e1 := cell_of_heap HX2.out (i := 1) (v := .int .i64 x.on) (by rfl); have e2 := cell_of_heap HX2.out (i := 2) (v := .int .i64 x.n) (by rfl); have e3 := cell_of_heap HX2.out (i := 3) (v := .string ⟨x.name.toArray⟩) (by rfl); have e4 := cell_of_heap HX2.out (i := 4) (v := .string ⟨x.dst.toArray⟩) (by rfl); have e5 := cell_of_heap HX2.out (i := 5) (v := .int .i64 x.at_) (by rfl); have e6 := cell_of_heap HX2.out (i := 6) (v := .slice da x.data.length dc) (by rfl); unfold encO at hW2; have HW2 := Lib.hid hW2; clear hW2)
                    | rw [HW2.out]
                    | (go_at_call 7; refine (cN _ _).mono ?_; rintro _ wn ⟨rfl, rfl⟩)
                    | (go_at_call 10; (with_reducible refine hd2.mono ?_); rintro _ w5 ⟨vr, rfl, hvr, hA5, hx5⟩; clear hvr; have f0 := cell_of_heap hx5 (i := 0) (v := .int .i64 x.kind) (by rfl); have HX5 := Lib.hid hx5; clear hx5))
                  exact ⟨⟨k + 1, by omega, by go_num, hA5⟩, by simp [intOf]; omega⟩
            · have hoff : offAt at_ k = true := by unfold offAt; simp; omega
              rw [hoff] at hC
              have g1 : ((k : Int) == at_) = false := by simpa using hs
              obtain ⟨W2, hW2⟩ : ∃ W2, wr.alloc (.cells (encO x da dc) 44) = W2 := ⟨_, rfl⟩
              have hd2 := HDV.out wr W2 f hS hC hW2
              have HX2 := Lib.hid (show W2.heap[wr.heap.size]? = some (.cells (encO x da dc) 44 (0, 0)) by rw [← hW2]; exact World.alloc_heap_new wr _)
              have e0 := cell_of_heap HX2.out (i := 0) (v := (.int .i64 x.kind)) (by rfl)
              have e1 := cell_of_heap HX2.out (i := 1) (v := (.int .i64 x.on)) (by rfl)
              have e2 := cell_of_heap HX2.out (i := 2) (v := (.int .i64 x.n)) (by rfl)
              have e3 := cell_of_heap HX2.out (i := 3) (v := (.string ⟨x.name.toArray⟩)) (by rfl)
              have e4 := cell_of_heap HX2.out (i := 4) (v := (.string ⟨x.dst.toArray⟩)) (by rfl)
              have e5 := cell_of_heap HX2.out (i := 5) (v := (.int .i64 x.at_)) (by rfl)
              have e6 := cell_of_heap HX2.out (i := 6) (v := (.slice da x.data.length dc)) (by rfl)
              unfold encO at hW2
              have HW2 := Lib.hid hW2
              clear hW2 hs hat hoff hC hS
              by_cases h17 : 1 ≤ x.kind ∧ x.kind ≤ 7
              · have k1 : decide (1 ≤ x.kind) = true := by simpa using h17.1
                have k2 : decide (x.kind ≤ 7) = true := by simpa using h17.2
                go_wp2_with (first
                  | rw [HW2.out]
                  | (go_at_call 7; refine (cN _ _).mono ?_; rintro _ wn ⟨rfl, rfl⟩)
                  | (go_at_call 10; (with_reducible refine hd2.mono ?_); rintro _ w5 ⟨vr, rfl, hvr, hA5, hx5⟩; have hv6 := hvr h17.1 h17.2; subst hv6; clear hvr; have f0 := cell_of_heap hx5 (i := 0) (v := .int .i64 x.kind) (by rfl); have HX5 := Lib.hid hx5; clear hx5))
                exact ⟨⟨k + 1, by omega, by go_num, hA5⟩, by simp [intOf]; omega⟩
              · clear HON
                by_cases h1 : 1 ≤ x.kind
                · have k1 : decide (1 ≤ x.kind) = true := by simpa using h1
                  have k2 : decide (x.kind ≤ 7) = false := by simp; omega
                  clear h17 h1
                  go_wp2_with (first
                    | rw [HW2.out]
                    | (go_at_call 7; refine (cN _ _).mono ?_; rintro _ wn ⟨rfl, rfl⟩)
                    | (go_at_call 10; (with_reducible refine hd2.mono ?_); rintro _ w5 ⟨vr, rfl, hvr, hA5, hx5⟩; clear hvr; have f0 := cell_of_heap hx5 (i := 0) (v := .int .i64 x.kind) (by rfl); have HX5 := Lib.hid hx5; clear hx5))
                  exact ⟨⟨k + 1, by omega, by go_num, hA5⟩, by simp [intOf]; omega⟩
                · have k1 : decide (1 ≤ x.kind) = false := by simpa using h1
                  clear h17 h1
                  go_wp2_with (first
                    | rw [HW2.out]
                    | (go_at_call 7; refine (cN _ _).mono ?_; rintro _ wn ⟨rfl, rfl⟩)
                    | (go_at_call 10; (with_reducible refine hd2.mono ?_); rintro _ w5 ⟨vr, rfl, hvr, hA5, hx5⟩; clear hvr; have f0 := cell_of_heap hx5 (i := 0) (v := .int .i64 x.kind) (by rfl); have HX5 := Lib.hid hx5; clear hx5))
                  exact ⟨⟨k + 1, by omega, by go_num, hA5⟩, by simp [intOf]; omega⟩
        · obtain rfl : k = xs.length := by omega
          have hd := hC.disk
          obtain ⟨hh1, hh2⟩ := hS.hasD
          rw [hd] at hh1
          have hbw := hS.bel
          have hf1 := hh1.files5 hOk (by omega)
          have HH1 := Lib.hid hh1
          have HH2 := Lib.hid hh2
          have HBW := Lib.hid hbw
          have HOK := Lib.hid hOk
          have hal : s.all.length ≤ maxLen := by have := hOk.manyNames; have e : s.all.length = s.names.length := (by unfold DSt.all; simp); omega
          have hee : (s.all == s.all) = true := by simp
          obtain ⟨la, hla⟩ : ∃ la, s.all = la := ⟨_, rfl⟩
          have hfx : ∀ (W : World), Has 0 W po s → Calls Tryz.prog 12 #[.pointer (some ⟨po, 0, none⟩)] W (Some5 W la) := fun W h => by rw [← hla]; exact h.files5 hOk (by omega)
          obtain ⟨ru, hru⟩ : ∃ ru : Nat, s.room - s.used = ru := ⟨_, rfl⟩
          have hrx : ∀ (W : World) (p : Nat), Has 0 W p s → Calls Tryz.prog 13 #[.pointer (some ⟨p, 0, none⟩)] W fun e w' => e = .returned (.int .i64 (ru : Int)) ∧ Below W.heap.size W w' := fun W p h => by rw [← hru]; exact h.room hOk (by omega)
          rw [hla] at hf1 hal hee
          have HRX := Lib.hid hrx
          have HFX := Lib.hid hfx
          clear hS hC hd hh1 hh2 hbw hOk hrx hfx hla hru
          go_wp2_with (first
            | (go_at_call 12; (with_reducible refine hf1.mono ?_); rintro _ w4 ⟨a4, c4, rfl, hr4, hb4⟩; have hf2 := HFX.out _ (HH2.out.below hb4))
            | (go_at_call 12; (with_reducible refine hf2.mono ?_); rintro _ w5 ⟨a5, c5, rfl, hr5, hb5⟩; have hsf := SameFiles_any (c := c4) (d := c5) (hr4.below hb5) hr5 hal; rw [hee] at hsf)
            | (go_at_call 11; refine hsf.mono ?_; rintro _ w6 ⟨rfl, hb6⟩; have hb46 := bthen hb4 (bthen hb5 hb6); have hR1 := HRX.out _ _ (HH1.out.below hb46))
            | (go_at_call 13; (with_reducible refine hR1.mono ?_); rintro _ w7 ⟨rfl, hb7⟩; have hR2 := HRX.out _ _ ((HH2.out.below hb46).below hb7))
            | (go_at_call 13; (with_reducible refine hR2.mono ?_); rintro _ w8 ⟨rfl, hb8⟩; have hwk := works5_any w8)
            | (go_at_call 5; (with_reducible refine hwk.mono ?_); rintro _ w9 ⟨rfl, hb9⟩))
          go_ret
          exact ⟨rfl, bthen HB0.out (HBW.out.trans ((bthen hb46 (bthen hb7 (bthen hb8 hb9))).mono HBW.out.size))⟩

end Go.Proofs.YtehmnmpkfbginaaGreat
