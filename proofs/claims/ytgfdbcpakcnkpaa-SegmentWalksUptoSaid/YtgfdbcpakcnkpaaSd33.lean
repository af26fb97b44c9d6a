/- Texts of this claim, one behind the other: Shn, Sho. -/
import Derived.Test.YtgfdbcpakcnkpaaSd01
import Derived.Test.YtgfdbcpakcnkpaaSd32
import Derived.Test.YtgfdbcpakcnkpaaSd31
set_option linter.unusedSimpArgs false
set_option linter.unusedVariables false
/- Segment: the law's goes. -/
namespace Go.Proofs.Ytgfdbcpakcnkpaa
open Go.RowKit Go.Maps Go.Shelf
attribute [local go_sem] Oper.semAt_some

theorem alloc_at5 (w : World) (a b c d e : Obj) : (((((w.alloc a).alloc b).alloc c).alloc d).alloc e).heap[w.heap.size]? = some a ∧ (((((w.alloc a).alloc b).alloc c).alloc d).alloc e).heap[w.heap.size + 1]? = some b ∧ (((((w.alloc a).alloc b).alloc c).alloc d).alloc e).heap[w.heap.size + 2]? = some c ∧ (((((w.alloc a).alloc b).alloc c).alloc d).alloc e).heap[w.heap.size + 3]? = some d ∧ (((((w.alloc a).alloc b).alloc c).alloc d).alloc e).heap[w.heap.size + 4]? = some e := by
  obtain ⟨h1, h2, h3, h4⟩ := alloc_at4 w a b c d
  have e4 : ((((w.alloc a).alloc b).alloc c).alloc d).heap.size = w.heap.size + 4 := by simp
  refine ⟨(Below.heap_alloc _ _ _ (by omega)).trans h1, (Below.heap_alloc _ _ _ (by omega)).trans h2, (Below.heap_alloc _ _ _ (by omega)).trans h3, (Below.heap_alloc _ _ _ (by omega)).trans h4, ?_⟩
  have := World.alloc_heap_new ((((w.alloc a).alloc b).alloc c).alloc d) e
  rwa [e4] at this
/-- what the loop of goes keeps -/
def GoI (n0 : Nat) (w : World) (f leave : Int) (v : Value) (k : Nat) (W : World) : Prop :=
  Below n0 w W ∧ n0 + 5 ≤ W.heap.size ∧ W.heap[n0]? = some (.cells #[.int .i64 f] 2 (0, 0)) ∧ W.heap[n0 + 1]? = some (.cells #[v] 52 (0, 0)) ∧ W.heap[n0 + 2]? = some (.cells #[.int .i64 leave] 3 (0, 0)) ∧ W.heap[n0 + 3]? = some (.cells #[.bool false] 4 (0, 0)) ∧ W.heap[n0 + 4]? = some (.cells #[.int .i64 (k : Int)] 3 (0, 0))
theorem GoI.chg {n0 : Nat} {w : World} {f leave : Int} {v : Value} {k : Nat} {W W' : World} (h : GoI n0 w f leave v k W) {O : Nat → Prop} (hc : Chg O W W') (hO : ∀ b, O b → n0 + 5 ≤ b) : GoI n0 w f leave v k W' := by
  obtain ⟨h1, h2, h3, h4, h5, h6, h7⟩ := h
  have hs := hc.size
  have q : ∀ b, b < n0 + 5 → ¬ O b := fun b hb ho => by have := hO b ho; omega
  exact ⟨h1.trans (hc.belowLo6 (by omega) (fun b hb => by have := hO b hb; omega)), by omega, hc.obj h3 (q _ (by omega)), hc.obj h4 (q _ (by omega)), hc.obj h5 (q _ (by omega)), hc.obj h6 (q _ (by omega)), hc.obj h7 (q _ (by omega))⟩
/-- how it is left -/
def GoX (n0 : Nat) (w : World) (W : World) : Prop := Below n0 w W ∧ n0 + 5 ≤ W.heap.size ∧ W.heap[n0 + 3]? = some (.cells #[.bool true] 4 (0, 0))
theorem func_nil (w : World) (f : Fn) (x y : Array Value) : (binOp .eql 65 (.func f x y) .nilFunc).run Try.prog w = .ok (.bool false) w := by
  kernel_rfl
set_option maxRecDepth 100000 in
set_option maxHeartbeats 16000000 in
theorem goes17_any {w : World} {f : Int} {bd lo hi : Nat} {L : List (List UInt8)} (hq : SeqY Fence.wide 5 Try.prog 69 #[.pointer (some ⟨bd, 0, none⟩)] encE (YE f L) (KpB lo hi) (fun xs => xs.length = tellsN f L.length) (fun pre => pre.length ≤ tellsN f L.length) w) (hhi : hi ≤ w.heap.size)
    {a : Option Addr} {ca : Nat} {Lt : List (List UInt8)} (hA : EntsAt w a Lt) (hLt : Lt = L.take (tellsN f L.length)) (hl : L.length ≤ 1000000000) (hb : ∀ e ∈ L, e.length ≤ 140737488355328) (leave : Int) :
    Calls Try.prog 30 #[.func (.func 69) #[] #[.pointer (some ⟨bd, 0, none⟩)], .int .i64 f, .slice a Lt.length ca, .int .i64 leave] w fun e w' => e = .returned (.bool true) ∧ Below w.heap.size w w' := by
  have hmax : maxLen = 9223372036854775807 := rfl
  have hT : tellsN f L.length ≤ L.length := by unfold tellsN; split <;> omega
  have hTl : Lt.length = tellsN f L.length := by rw [hLt, List.length_take]; omega
  have hTf : tellsN f L.length ≠ 0 → 0 ≤ f ∧ f + (tellsN f L.length : Int) ≤ 4611686018427387905 := by unfold tellsN; split <;> omega
  have hge : ∀ (k : Nat) e, k < tellsN f L.length → L[k]? = some e → Lt[k]? = some e := fun k e hk he => by rw [hLt, List.getElem?_take, if_pos hk]; exact he
  obtain ⟨wa, hwa⟩ : ∃ wa, ((((w.alloc (.cells #[.int .i64 f] 2)).alloc (.cells #[.slice a Lt.length ca] 52)).alloc (.cells #[.int .i64 leave] 3)).alloc (.cells #[.bool false] 4)).alloc (.cells #[.int .i64 0] 3) = wa := ⟨_, rfl⟩
  have hba : Below w.heap.size w wa := by rw [← hwa]; exact ((((below_alloc w _).alloc (by simp) _).alloc (by simp; omega) _).alloc (by simp; omega) _).alloc (by simp; omega) _
  have hza : wa.heap.size = w.heap.size + 5 := by rw [← hwa]; simp
  obtain ⟨x0, x1, x2, x3, x4⟩ : wa.heap[w.heap.size]? = some (.cells #[.int .i64 f] 2 (0, 0)) ∧ wa.heap[w.heap.size + 1]? = some (.cells #[.slice a Lt.length ca] 52 (0, 0)) ∧ wa.heap[w.heap.size + 2]? = some (.cells #[.int .i64 leave] 3 (0, 0)) ∧ wa.heap[w.heap.size + 3]? = some (.cells #[.bool false] 4 (0, 0)) ∧ wa.heap[w.heap.size + 4]? = some (.cells #[.int .i64 0] 3 (0, 0)) := by rw [← hwa]; exact alloc_at5 w _ _ _ _ _
  obtain ⟨w1, hw1⟩ : ∃ w1, wa.setCell ⟨w.heap.size + 4, 0, none⟩ (.int .i64 0) = w1 := ⟨_, rfl⟩
  have hc1 : Chg (· = w.heap.size + 4) wa w1 := by rw [← hw1]; exact Chg.set _ rfl
  have hb1 : Below w.heap.size w w1 := Chg.ret hba (by omega) hc1
  have hz1 : w1.heap.size = w.heap.size + 5 := by rw [← hza, ← hw1]; simp [World.setCell]
  have hI1 : GoI w.heap.size w f leave (.slice a Lt.length ca) 0 w1 := ⟨hb1, by omega, hc1.obj x0 (by omega), hc1.obj x1 (by omega), hc1.obj x2 (by omega), hc1.obj x3 (by omega), by rw [← hw1]; exact heap_set_cells (i := 0) _ x4⟩
  have ca4 := cell_of_heap x4 (i := 0) (v := .int .i64 0) (by rfl)
  have fa4 := frozen_of_heap (i := 0) x4
  have HZ1 := Lib.hid hz1
  have HWA := Lib.hid hwa
  clear hz1 hwa hba hza x0 x1 x2 x3 x4 hc1
  have hnf := func_nil
  have HW := Lib.hid hw1
  have HI := Lib.hid hI1
  have HG := Lib.hid hge
  have HB := Lib.hid hb
  have HTl := Lib.hid hTl
  have HTf := Lib.hid hTf
  have HT := Lib.hid hT
  clear hw1 hI1 hge hb hLt hTl hTf hT
  refine (callsIn_wide (n := 6)).1 ?_
  refine callsIn_of_wp_marks Try.func30 rfl trivial ?_ rfl
  simp only [Try.ntmps30, List.size_toArray, List.length_cons, List.length_nil, Nat.reduceAdd, Nat.reduceSub, Array.replicate_succ, Array.replicate_zero, List.push_toArray, List.append_toArray, List.nil_append, List.cons_append]
  refine wpIn_wide.2 ?_
  go_wp2_with (first | rw [HWA.out] | rw [HW.out])
  clear ca4 fa4
  refine (wpIn_wide (n := 6)).1 ?_
  refine wpIn_rangeFunc_Y rfl (by omega) (gf := 69) (lb := #[.pointer (some ⟨bd, 0, none⟩)]) rfl trivial (enters_of Try.func69 (by kernel_rfl) rfl)
    (w0 := w) hq (fun h k => h.trans k) (fun W o o' ho => KpB.of_chg (chg_putObj6 W _ _) (fun b hb => by right; have := HZ1.out; omega) (by have := heap_lt ho; have := HZ1.out; omega)) hb1 (fun _ => rfl) (fun _ _ _ _ h => h.grown)
    (fun pre W => GoI w.heap.size w f leave (.slice a Lt.length ca) pre.length W)
    (fun c pre W => c = .ret ∧ GoX w.heap.size w W)
    ?gr ?lo ?lox HI.out ?round ?done ?stop
  case gr =>
    rintro s A B g1 hg
    exact g1.chg (Chg.of_grown (O := fun _ => False) hg (fun k e => by cases e)) (fun _ h => h.elim)
  case lo =>
    rintro s W o o' g1 ho
    exact g1.chg (chg_putObj6 W (w1.heap.size + 1) (.loop o')) (fun b hb => by have := HZ1.out; omega)
  case lox =>
    rintro c s W o o' ⟨g0, g1, g2, g3⟩ ho
    have hc := chg_putObj6 W (w1.heap.size + 1) (.loop o')
    have hs := hc.size
    have hz := HZ1.out
    exact ⟨g0, g1.trans (hc.belowLo6 g1.size (fun k hk => by omega)), by omega, hc.obj g3 (by omega)⟩
  case round =>
    rintro l pre ⟨xi, xv⟩ W0 W g1 ⟨y1, y2, ⟨e, he, hU⟩, hbY⟩ hlt
    have g2 := g1.chg (Chg.of_below (O := fun _ => False) hbY) (fun _ h => h.elim)
    simp only at y2
    subst y2
    have hsY := hbY.size
    obtain ⟨ua, uc, rfl, _⟩ := hU.row
    simp only [encE]
    gi_wp2
    intro o o' ho
    obtain ⟨W2, hW2⟩ : ∃ W2, W.putObj (w1.heap.size + 1) (.loop o') = W2 := ⟨_, rfl⟩
    have hcP : Chg (· = w1.heap.size + 1) W W2 := by rw [← hW2]; exact chg_putObj6 _ _ _
    have hs2 := hcP.size
    rw [hW2]
    clear hW2
    have g3 := g2.chg hcP (fun b hb => by have := HZ1.out; omega)
    have hU2 := hU.kept (R' := fun b => W0.heap.size ≤ b) hcP (fun b hb e => by omega) (fun _ h => h)
    obtain ⟨ua', uc', e', _, _, hur2, hub, hu0, huo2⟩ := hU2
    cases e'
    obtain ⟨m0, m1, x0, x1, x2, x3, x4⟩ := g3
    have hLte := HG.out _ e y1 he
    obtain ⟨b1, o1, rfl, cc⟩ := hA.below m0 (fun e => by rw [e] at hLte; simp at hLte)
    obtain ⟨va, vc, v1, vr, _⟩ := cc pre.length e hLte
    have hel := HB.out e (List.mem_of_getElem? he)
    have c0 := cell_of_heap x0 (i := 0) (v := .int .i64 f) (by rfl)
    have c1 := cell_of_heap x1 (i := 0) (v := .slice (some ⟨b1, o1, none⟩) Lt.length ca) (by rfl)
    have c2 := cell_of_heap x2 (i := 0) (v := .int .i64 leave) (by rfl)
    have c4 := cell_of_heap x4 (i := 0) (v := .int .i64 (pre.length : Int)) (by rfl)
    have d0 := cell_regrown c0
    have d1 := cell_regrown c1
    have d4 := cell_regrown c4
    have dv := cell_regrown v1
    have q1 : ∀ d os, (convert 26 9 (.slice ua e.length uc)).run Try.prog (Go.Sort.grow (redrawn W2 d) os) = .ok (.string ⟨e.toArray⟩) (Go.Sort.grow (redrawn W2 d) os) := fun d os => run_conv (P := Try.prog) 26 9 5 Try.underlying26 Try.underlying5 Try.underlying9 (c := uc) (hur2.below (below_regrown W2 d os))
    have q2 : ∀ d os, (convert 26 9 (.slice va e.length vc)).run Try.prog (Go.Sort.grow (redrawn W2 d) os) = .ok (.string ⟨e.toArray⟩) (Go.Sort.grow (redrawn W2 d) os) := fun d os => run_conv (P := Try.prog) 26 9 5 Try.underlying26 Try.underlying5 Try.underlying9 (c := vc) (vr.below (below_regrown W2 d os))
    have hTl := HTl.out
    have hTf := HTf.out
    have hT := HT.out
    have z0 : decide ((Lt.length : Int) ≤ (pre.length : Int)) = false := by simp; omega
    have z0' : decide (Lt.length ≤ pre.length) = false := by simp; omega
    have z1 : ((f + (pre.length : Int)) != (f + (pre.length : Int))) = false := by simp
    have z2 : (e != e) = false := by simp
    have hnk : IntKind.i64.wrap (f + (pre.length : Int)) = f + (pre.length : Int) := Go.IntWalk.i64_in _ (by have := hTf (by omega); omega)
    have j0 : (0 : Int) ≤ (pre.length : Int) := by omega
    have j1 : (pre.length : Int) < (Lt.length : Int) := by omega
    have HM0 := Lib.hid (And.intro m0 (And.intro m1 (And.intro x0 (And.intro x1 (And.intro x2 (And.intro x3 x4))))))
    have HUO := Lib.hid huo2
    have HUB := Lib.hid hub
    clear hTl hTf hT cc he hLte hur2 vr huo2 m0 m1 x0 x1 x2 x3 x4 g1 g2
    gi_wp2_with fail
    refine wpIn_region_quiet_belowR rfl (by kernel_rfl) (by kernel_rfl) (by kernel_rfl) ?_
    repeat ((first | (refine wpQuietIn_step asked_wide (fun K hK => ?_)) | (refine Go.Sort.wpQuietIn_want asked_wide (by rfl) (fun K hK => ?_))); go_simp; (refine hK _ ?_; clear hK K))
    refine wpQuietIn_nil ?_
    intro Wn hbn
    have g4 : GoI w.heap.size w f leave (.slice (some ⟨b1, o1, none⟩) Lt.length ca) pre.length W2 := HM0.out
    have g5 := g4.chg (Chg.of_below (O := fun _ => False) hbn) (fun _ h => h.elim)
    have huN := (Chg.of_below (O := fun _ => False) hbn).row HUO.out (fun _ _ h => h)
    have hgo : e.length = 0 ∨ ∃ g, ua = some ⟨g, 0, none⟩ ∧ W0.heap.size ≤ g := by
      rcases HUO.out.2 with ⟨_, h0⟩ | ⟨g, cap, cur, q, _⟩
      · exact .inl h0
      · simp only [Value.slice.injEq] at q
        exact .inr ⟨g, q.1, by have := HUB.out _ q.1; exact this⟩
    have HGO := Lib.hid hgo
    have HG5 := Lib.hid g5
    have hsn := hbn.size
    have hz1 := HZ1.out
    clear hgo g4 g5 hub d0 d1 d4 dv q1 q2 z0 z0' z1 z2 c0 c1 c2 c4 v1 hz1
    gi_wp2
    gi_loopw [12] (fun i wr => ∃ k : Nat, k ≤ e.length ∧ i = .int .i64 k ∧ Chg (fun b => W0.heap.size ≤ b) Wn wr ∧ ∃ ys, wr.ownsRow 0 5 1 (.slice ua e.length uc) e.length ys) (fun i _ => e.length - (RowKit.intOf i).toNat)
    case atStart => exact ⟨0, Nat.zero_le _, rfl, Chg.refl _ _, _, huN⟩
    case round =>
      obtain ⟨k, hk, rfl, hc, ys, hr⟩ := hrel
      by_cases hke : k < e.length
      · rcases HGO.out with h0 | ⟨g, rfl, hg⟩
        · omega
        obtain ⟨⟨u0, q0⟩, f0, hset⟩ := ownsRow_set hr (g := g) rfl k hke (.int .u8 119)
        have hc2 : Chg (fun b => W0.heap.size ≤ b) wr (wr.setCell ⟨g, k, none⟩ (.int .u8 119)) := Chg.set _ hg
        have hc3 := hc.trans hc2 (fun _ h _ => h)
        have k0 : (0 : Int) ≤ (k : Int) := by omega
        have k1 : (k : Int) < (e.length : Int) := by omega
        have HS := Lib.hid (And.intro hset hc3)
        clear hset hc2 hc3 huN
        gi_wp2
        go_roundw
        case rel => exact ⟨k + 1, by omega, by go_num, HS.out.2, _, HS.out.1⟩
        case measure => simp [RowKit.intOf]; omega
      · obtain rfl : k = e.length := by omega
        have hz1 := HZ1.out
        have g6 := HG5.out.chg hc (fun b hb => by have h : W0.heap.size ≤ b := hb; omega)
        have hcW : Chg (fun b => W0.heap.size ≤ b) W2 wr := (Chg.of_below (O := fun b => W0.heap.size ≤ b) hbn).trans hc (fun _ h _ => h)
        obtain ⟨m0, m1, x0, x1, x2, x3, x4⟩ := g6
        have c2 := cell_of_heap x2 (i := 0) (v := .int .i64 leave) (by rfl)
        have c4 := cell_of_heap x4 (i := 0) (v := .int .i64 (pre.length : Int)) (by rfl)
        have f4 := frozen_of_heap (i := 0) x4
        have c3 := cell_of_heap x3 (i := 0) (v := .bool false) (by rfl)
        have f3 := frozen_of_heap (i := 0) x3
        have e8 : IntKind.i64.wrap ((pre.length : Int) + 1) = (pre.length : Int) + 1 := Go.IntWalk.i64_in _ (by have := HT.out; omega)
        have k1 : ¬ ((e.length : Int) < (e.length : Int)) := by omega
        obtain ⟨X, hX, hcX⟩ : ∃ X, wr.setCell ⟨w.heap.size + 4, 0, none⟩ (.int .i64 ((pre.length : Int) + 1)) = X ∧ Chg (· = w.heap.size + 4) wr X := ⟨_, rfl, Chg.set _ rfl⟩
        have hgX : GoI w.heap.size w f leave (.slice (some ⟨b1, o1, none⟩) Lt.length ca) (pre ++ [(f + (pre.length : Int), (.slice ua e.length uc : Value))]).length X := by
          have hs := hcX.size
          refine ⟨Chg.ret m0 (by omega) hcX, by omega, hcX.obj x0 (by omega), hcX.obj x1 (by omega), hcX.obj x2 (by omega), hcX.obj x3 (by omega), ?_⟩
          have := heap_set_cells (i := 0) (.int .i64 ((pre.length : Int) + 1)) x4
          rw [hX] at this
          simpa using this
        have hcXW : Chg (fun b => b = w.heap.size + 4 ∨ W0.heap.size ≤ b) W2 X := (hcW.mono (fun b h _ => Or.inr h)).trans hcX (fun b h _ => .inl h)
        have c2X := cell_of_heap hgX.2.2.2.2.1 (i := 0) (v := .int .i64 leave) (by rfl)
        have c4X := cell_of_heap hgX.2.2.2.2.2.2 (i := 0) (v := .int .i64 ((pre.length : Int) + 1)) (by simp)
        have c3X := cell_of_heap hgX.2.2.2.2.2.1 (i := 0) (v := .bool false) (by rfl)
        have f3X := frozen_of_heap (i := 0) hgX.2.2.2.2.2.1
        have HX := Lib.hid hX
        have HGX := Lib.hid hgX
        have HCX := Lib.hid hcXW
        have HCP := Lib.hid hcP
        clear hX hgX hcXW hcX hcP x0 x1 x2 x3 x4 m0 m1 hcW hc hr huN hke
        by_cases hlv : (pre.length : Int) + 1 = leave
        · have zl : (((pre.length : Int) + 1) == leave) = true := by simpa using hlv
          obtain ⟨Z, hZ, hcZ⟩ : ∃ Z, X.setCell ⟨w.heap.size + 3, 0, none⟩ (.bool true) = Z ∧ Chg (· = w.heap.size + 3) X Z := ⟨_, rfl, Chg.set _ rfl⟩
          have hxZ := heap_set_cells (i := 0) (.bool true) HGX.out.2.2.2.2.2.1
          rw [hZ] at hxZ
          have HZ := Lib.hid hZ
          have HXZ := Lib.hid hxZ
          clear hZ hlv hxZ hz1
          gi_wp2_with (first | rw [HX.out] | rw [HZ.out])
          have hz1 := HZ1.out
          have hsz := hcZ.size
          refine ⟨fun k h1 h2 => (hcZ.block k (by have := HCX.out.size; omega) (by omega)).trans (HCX.out.block k (by omega) (by omega)), rfl, Chg.ret HGX.out.1 (by omega) hcZ, by have := HGX.out.2.1; omega, HXZ.out⟩
        · have zl : (((pre.length : Int) + 1) == leave) = false := by simpa using hlv
          clear hlv hz1
          gi_wp2_with (rw [HX.out])
          have hz1 := HZ1.out
          have hcT : Chg (fun b => b = w1.heap.size + 1 ∨ b = w.heap.size + 4 ∨ W0.heap.size ≤ b) W X := (HCP.out.mono (fun b h _ => Or.inl h)).trans HCX.out (fun b h _ => .inr h)
          exact ⟨fun k h1 h2 => HCX.out.block k (by omega) (by omega), KpB.of_chg hcT (fun b hb => by right; omega) (by omega), HGX.out⟩
  case done =>
    rintro xs W hSx g1 hD
    have hz1 := HZ1.out
    obtain ⟨m0, m1, x0, x1, x2, x3, x4⟩ := g1
    have c1 := cell_of_heap x1 (i := 0) (v := .slice a Lt.length ca) (by rfl)
    have c4 := cell_of_heap x4 (i := 0) (v := .int .i64 (xs.length : Int)) (by rfl)
    have c3 := cell_of_heap x3 (i := 0) (v := .bool false) (by rfl)
    have f3 := frozen_of_heap (i := 0) x3
    have hEq : ((xs.length : Int) == (Lt.length : Int)) = true := by rw [show xs.length = Lt.length from by rw [HTl.out]; exact hSx]; simp
    obtain ⟨Z, hZ, hcZ⟩ : ∃ Z, W.setCell ⟨w.heap.size + 3, 0, none⟩ (.bool true) = Z ∧ Chg (· = w.heap.size + 3) W Z := ⟨_, rfl, Chg.set _ rfl⟩
    have hxZ := heap_set_cells (i := 0) (.bool true) x3
    rw [hZ] at hxZ
    have HZ := Lib.hid hZ
    have HXZ := Lib.hid hxZ
    clear hZ hSx hxZ
    gi_wp2
    go_wp2
    rw [HZ.out]
    have hDX := hcZ.obj hD (by omega)
    refine ⟨by simp, .inl ⟨_, _, rfl, run_takeDeferred hDX, ?_⟩⟩
    have hg := chg_putObj6 Z w1.heap.size (.deferred none)
    have y1 := cell_of_heap (hg.obj HXZ.out (by omega)) (i := 0) (v := .bool true) (by rfl)
    have hcA : Below w.heap.size w (Z.putObj w1.heap.size (.deferred none)) := (Chg.ret m0 (by omega) hcZ).trans (hg.belowLo6 (by have := hcZ.size; omega) (fun k hk => by omega))
    exact ⟨.bool true, by simp [results, Try.results30, go_sem, y1], rfl, hcA⟩
  case stop =>
    rintro c pre W _ ⟨rfl, g1, g2, x3⟩ hD
    have hz1 := HZ1.out
    gi_wp2
    refine ⟨by simp, .inl ⟨_, _, rfl, run_takeDeferred hD, ?_⟩⟩
    have hg := chg_putObj6 W w1.heap.size (.deferred none)
    have y1 := cell_of_heap (hg.obj x3 (by omega)) (i := 0) (v := .bool true) (by rfl)
    have hcA : Below w.heap.size w (W.putObj w1.heap.size (.deferred none)) := g1.trans (hg.belowLo6 (by omega) (fun k hk => by omega))
    exact ⟨.bool true, by simp [results, Try.results30, go_sem, y1], rfl, hcA⟩

end Go.Proofs.Ytgfdbcpakcnkpaa
/- Segment: Append over the disk; the law's works. -/
namespace Go.Proofs.Ytgfdbcpakcnkpaa
open Go.RowKit Go.Maps

theorem hexB_ok {x : Nat} (h : x < 16) : ChOk (hexB x) := by
  unfold ChOk
  rcases lt16 h with rfl | rfl | rfl | rfl | rfl | rfl | rfl | rfl | rfl | rfl | rfl | rfl | rfl | rfl | rfl | rfl <;> decide
theorem nameL_ok {c : UInt8} (hc : ChOk c) (n : Nat) : NameOk (nameL c n 16) := by
  refine ⟨by rw [nameL_len]; omega, by rw [nameL_len]; omega, fun x hx => ?_⟩
  unfold nameL at hx
  rcases List.mem_cons.1 hx with rfl | hx
  · exact hc
  · obtain ⟨j, _, rfl⟩ := List.mem_map.1 hx
    exact hexB_ok (nib_lt _ _)
theorem segName_ok (f : Int) : nameOk (segName f) = true := (nameOk_true (nameL_ok (by unfold ChOk; decide) _)).symm
section
variable {F G : Nat → Prop} {w : World} {p : Nat} {s : DSt} {N : Nat}
theorem append1_disk (h : One F G w p s) (hok : s.Ok N) (hN : N + 1 < maxList) {nm : List UInt8} (hnm : nm.length ≤ maxLen) {b3 b4 b9 : Nat} {e3 e9 : TypeId} {f g z y : Int} (hg : 0 ≤ g) (hg1 : g ≤ 1099511627776) {es : Value} {ua : Option Addr} {uc : Nat} {en : List UInt8} (hen : en.length ≤ 140737488355328)
    (k3 : w.heap[b3]? = some (.cells #[devD p] e3 (0, 0))) (k4 : w.heap[b4]? = some (.cells #[.int .i64 f, es, .int .i64 g, .int .i64 z, .int .i64 y] 54 (0, 0))) (k9 : w.heap[b9]? = some (.cells #[.slice ua en.length uc] e9 (0, 0))) (kr : RowAt w ua (en.map bv)) (kn : ua = none → uc = 0) :
    Calls Try.prog 84 #[.string ⟨nm.toArray⟩, .pointer (some ⟨b3, 0, none⟩), .pointer (some ⟨b4, 0, none⟩), .pointer (some ⟨b9, 0, none⟩)] w fun e w' => e = .returned (.int .i64 ((s.put nm g en).2 : Int)) ∧ ∃ F' G', One F' G' w' p (s.put nm g en).1 ∧ Moved F G F' G' w w' := by
  have hP := h.put hnm (at_ := g) (xc := uc) kr kn hen (by omega) hok hN
  have c3 := cell_of_heap k3 (i := 0) (v := devD p) (by rfl)
  have c2 := cell_of_heap k4 (i := 2) (v := .int .i64 g) (by rfl)
  have c9 := cell_of_heap k9 (i := 0) (v := .slice ua en.length uc) (by rfl)
  unfold devD at c3
  generalize (s.put nm g en).2 = er at *
  clear k3 k4 k9 kr kn hen hok hN h hg hg1
  go_enter Try.func84, Try.ntmps84
  go_wp2_with (go_at_call 12; refine hP.mono ?_; rintro _ w2 ⟨rfl, hq⟩)
  go_ret
  exact ⟨rfl, hq⟩
/-- Append over the disk -/
theorem append_disk (h : One F G w p s) (hok : s.Ok N) (hN : N + 1 < maxList) {f g z y : Int} {a b : Option Addr} {c cb : Nat} {L M : List (List UInt8)} (hg : 0 ≤ g) (hg1 : g ≤ 1099511627776) (hLb : ∀ e ∈ L, e.length ≤ 140737488355328) (hA : EntsAt w a L) (hM : ∀ w', Chg F w w' → EntsAt w' b M) (hM0 : M ≠ []) (hf : fitsE f L.length M = 0) :
    Calls Try.prog 60 #[devD p, .agg #[.int .i64 f, .slice a L.length c, .int .i64 g, .int .i64 z, .int .i64 y], .slice b M.length cb] w
      (SegPost F G (fun F G w => One F G w p (s.put (segName f) g (encL (f.toNat + L.length) M)).1) w (if ((s.put (segName f) g (encL (f.toNat + L.length) M)).2 : Int) = 0 then SegV.behind ⟨f, L, g, z, y⟩ M ((encL (f.toNat + L.length) M).length : Int) else SegV.none, ((s.put (segName f) g (encL (f.toNat + L.length) M)).2 : Int))) := by
  obtain ⟨_, _, _, f3, f4⟩ := fits_ok hf
  have hen := encL_len_le (f.toNat + L.length) M f4
  exact append_go (At := fun F G w => One F G w p s) (At' := fun F G w => One F G w p (s.put (segName f) g (encL (f.toNat + L.length) M)).1) (Lies.one p s) (Lies.one p _) h hg hg1 hLb hA hM hM0 hf
    (fun W b3 b4 b9 e3 e9 es ua uc ha k3 k4 k9 kr kn _ => append1_disk ha hok hN (by rw [segName_len]; decide) hg hg1 (by omega) k3 k4 k9 kr kn)
end

/-! ### works -/
def wkM : List (List UInt8) := [[1, 2], []]
noncomputable def wk1 : DSt := ((DSt.empty 1000).create (segName 5)).1
noncomputable def wk2 : DSt := (wk1.put (segName 5) 0 (encL 5 wkM)).1
theorem wk_create : (DSt.empty 1000).create (segName 5) = (({ DSt.empty 1000 with files := [([], [])] } : DSt).step (.create (segName 5) 0), 0) := by
  have h : (DSt.empty 1000).names = [] := rfl
  unfold DSt.create
  rw [segName_ok, h]
  rfl
theorem wk1_eq : wk1 = ({ DSt.empty 1000 with files := [([], [])] } : DSt).step (.create (segName 5) 0) := by unfold wk1; rw [wk_create]
theorem wk_en : (encL 5 wkM).length = 40 := by decide
theorem wk_seg : (segL 5 (encL 5 wkM)).entries = wkM ∧ (segL 5 (encL 5 wkM)).good = 40 ∧ (segL 5 (encL 5 wkM)).why = 0 := by decide +kernel
theorem wk_find : nlFind wk1.names (segName 5) = some 0 := by
  rw [wk1_eq]
  show nlFind (nlPut [] (segName 5) 0) (segName 5) = some 0
  simp [nlPut, nlDel, nlIns, nlFind]
theorem wk_st : wk1.stands 0 = [] := by rw [wk1_eq]; rfl
theorem wk_used : wk1.used = 0 := by
  unfold DSt.used usedOf
  have hn : wk1.names = [(segName 5, 0)] := by rw [wk1_eq]; show nlPut [] (segName 5) 0 = _; simp [nlPut, nlDel, nlIns]
  rw [hn]
  simp [wk_st]
theorem wk_put : wk1.put (segName 5) 0 (encL 5 wkM) = (wk1.write ⟨0, false, 0, encL 5 wkM⟩, 0) := by
  unfold DSt.put
  rw [wk_find]
  have hr : wk1.room = 1000 := by rw [wk1_eq]; rfl
  simp only [wk_st, wk_used, wk_en, hr]
  rw [if_neg (by simp), if_neg (by simp)]
  rfl
theorem wk_text : wk2.text (segName 5) = some (encL 5 wkM) := by
  have h2 : wk2 = wk1.write ⟨0, false, 0, encL 5 wkM⟩ := by unfold wk2; rw [wk_put]
  have hn : wk2.names = wk1.names := by rw [h2]; rfl
  unfold DSt.text
  rw [hn, wk_find, h2]
  show some ((wk1.write ⟨0, false, 0, encL 5 wkM⟩).stands 0) = _
  have : (wk1.write ⟨0, false, 0, encL 5 wkM⟩).stands 0 = laid (wk1.stands 0) ⟨0, false, 0, encL 5 wkM⟩ (encL 5 wkM).length := by
    unfold DSt.write DSt.stands
    rw [wk1_eq]
    rfl
  rw [this, wk_st]
  unfold laid
  rw [if_neg (by simp), if_neg (by rw [wk_en]; omega)]
  simp
theorem wk_scan : scanD wk2 5 = (⟨5, wkM, 40, 40, 0⟩, 0) := by
  unfold scanD
  rw [if_neg (by omega)]
  unfold scanN
  rw [show (5 : Int).toNat = 5 from rfl, wk_text]
  show (SegV.of 5 (encL 5 wkM), 0) = _
  unfold SegV.of
  rw [wk_seg.1, wk_seg.2.1, wk_seg.2.2, wk_en]
  rfl
theorem wk_ok0 : (DSt.empty 1000).Ok 0 := DSt.Ok.empty (by decide) 0
theorem wk_ok1 : wk1.Ok 1 := wk_ok0.create (segName 5)
theorem wk_ok2 : wk2.Ok 2 := wk_ok1.put (segName 5) 0 _
theorem wk_behind : SegV.behind ⟨5, [], 0, 0, 0⟩ wkM ((encL 5 wkM).length : Int) = ⟨5, wkM, 40, 40, 0⟩ := by rw [wk_en]; rfl
theorem EntIn.off {R O : Nat → Prop} {w w' : World} {v : Value} {L : List (List UInt8)} (h : EntIn R w v L) (hc : Chg O w w') (hO : ∀ b, R b → ¬ O b) : EntIn R w' v L := h.kept hc hO (fun _ h => h)
section
variable {w : World}
theorem wk_new (w : World) : Calls Try.prog 31 #[.int .i64 1000] w fun e w' => ∃ p F G, e = .returned (.tuple #[.pointer (some ⟨p, 0, none⟩), .int .i64 0]) ∧ One F G w' p (DSt.empty 1000) ∧ (∀ b, F b ∨ G b → w.heap.size ≤ b) ∧ Below w.heap.size w w' :=
  (new_any (cap := 1000) (by decide) w).mono fun e w' ⟨p, own, k1, k2, k3, k4⟩ => by
    obtain ⟨F, G, h1, h2, h3⟩ := One.of (w := w) k2 k3 (fun b hb => hb.1)
    exact ⟨p, F, G, k1, h1, fun b hb => hb.elim (fun h => (h2 b h).1) (fun h => (h3 b h).1), k4⟩
theorem wk_begin {F G : Nat → Prop} {p : Nat} (h : One F G w p (DSt.empty 1000)) : Calls Try.prog 59 #[devD p, .int .i64 5] w fun e w' => e = .returned (.int .i64 0) ∧ ∃ F' G', One F' G' w' p wk1 ∧ Moved F G F' G' w w' := by
  have := begin_any h (f := 5) (by omega) (by omega) wk_ok0 (by decide)
  rw [wk_create] at this
  rw [wk1_eq]
  exact this
theorem wk_append {F G : Nat → Prop} {p : Nat} (h : One F G w p wk1) {b : Option Addr} {cb : Nat} (hM : ∀ w', Chg F w w' → EntsAt w' b wkM) : Calls Try.prog 60 #[devD p, .agg #[.int .i64 5, .slice none 0 0, .int .i64 0, .int .i64 0, .int .i64 0], .slice b 2 cb] w (SegPost F G (fun F G w => One F G w p wk2) w (⟨5, wkM, 40, 40, 0⟩, 0)) := by
  have hr : (wk1.put (segName 5) 0 (encL ((5 : Int).toNat + ([] : List (List UInt8)).length) wkM)).2 = 0 := by
    show (wk1.put (segName 5) 0 (encL 5 wkM)).2 = 0
    rw [wk_put]
  have := append_disk h wk_ok1 (by decide) (f := 5) (g := 0) (z := 0) (y := 0) (a := none) (c := 0) (cb := cb) (L := []) (M := wkM) (by omega) (by omega) (fun e he => by cases he) (EntsAt.nil _ _) hM (by decide) (by decide)
  rw [hr] at this
  rw [if_pos (show ((0 : Nat) : Int) = 0 from rfl)] at this
  have e : SegV.behind ⟨5, [], 0, 0, 0⟩ wkM ((encL ((5 : Int).toNat + ([] : List (List UInt8)).length) wkM).length : Int) = ⟨5, wkM, 40, 40, 0⟩ := wk_behind
  rw [e] at this
  exact this
theorem wk_scan_any {F G : Nat → Prop} {p : Nat} (h : One F G w p wk2) : Calls Try.prog 61 #[devD p, .int .i64 5] w (ScanPost w (⟨5, wkM, 40, 40, 0⟩, 0)) := by
  have := scan_any h wk_ok2 (by decide) (f := 5) (by omega)
  rw [wk_scan] at this
  exact this
theorem wk_read {F G : Nat → Prop} {p : Nat} (h : One F G w p wk2) : Calls Try.prog 62 #[devD p, .int .i64 5, .int .i64 5] w (ReadPost17 w ([1, 2], 0)) := by
  have := segread_any (w := w) (dt := 31) (dp := p) (f := 5) (n := 5) (L := wkM) (g := 40) (z := 40) (y := 0) (by omega) (by omega) (by omega) (fun W hW => wk_scan_any (h.below hW)) (by decide) (by decide)
  have e : readE17 5 5 (⟨5, wkM, 40, 40, 0⟩, 0) = ([1, 2], 0) := by decide
  rw [e] at this
  exact this
end
theorem wk_ents {w : World} {g : Nat} (ha : w.heap[g]? = some (.cells #[.int .u8 1, .int .u8 2] 5 (0, 0))) (hb : w.heap[g + 1]? = some (.cells #[.slice (some ⟨g, 0, none⟩) 2 2, .slice none 0 0] 26 (0, 0))) : EntsAt w (some ⟨g + 1, 0, none⟩) wkM := fun _ => by
  refine ⟨g + 1, 0, rfl, fun i d hd => ?_⟩
  match i with
  | 0 =>
    obtain rfl : [1, 2] = d := by simpa [wkM] using hd
    refine ⟨some ⟨g, 0, none⟩, 2, cell_of_heap hb (by rfl), RowAt.of_row (fun j u hu => ?_), by decide, fun e => by cases e⟩
    match j with
    | 0 => (simp at hu; subst hu; exact cell_of_heap ha (by rfl))
    | 1 => (simp at hu; subst hu; exact cell_of_heap ha (by rfl))
    | j + 2 => simp at hu
  | 1 =>
    obtain rfl : [] = d := by simpa [wkM] using hd
    exact ⟨none, 0, cell_of_heap hb (by rfl), RowAt.nil _ _, Nat.le_refl _, fun _ => rfl⟩
  | i + 2 => simp [wkM] at hd
set_option maxRecDepth 100000 in
set_option maxHeartbeats 16000000 in
theorem works17_any (w : World) : Calls Try.prog 20 #[] w fun e w' => e = .returned (.bool true) ∧ Below w.heap.size w w' := by
  have hN := wk_new w
  have hnf := func_nil
  go_enter Try.func20, Try.ntmps20
  go_wp2_with (first
    | (go_at_call 31; refine hN.mono ?_; rintro _ w1 ⟨p, F0, G0, rfl, hO0, hFG0, hb1⟩; have hB := wk_begin hO0; unfold devD at hB)
    | (go_at_call 59; refine hB.mono ?_; rintro _ w2 ⟨rfl, F1, G1, hO1, hm1⟩; obtain ⟨w3, hw3⟩ : ∃ w3, (w2.alloc (.cells #[.int .u8 1, .int .u8 2] 5)).alloc (.cells #[.slice (some ⟨w2.heap.size, 0, none⟩) 2 2, .slice none 0 0] 26) = w3 := ⟨_, rfl⟩; have hb3 : Below w2.heap.size w2 w3 := (by rw [← hw3]; exact (below_alloc _ _).alloc (by simp) _); have hxa : w3.heap[w2.heap.size]? = some (.cells #[.int .u8 1, .int .u8 2] 5 (0, 0)) := (by rw [← hw3]; exact (Below.heap_alloc _ _ _ (by simp)).trans (World.alloc_heap_new w2 _)); have hxb : w3.heap[w2.heap.size + 1]? = some (.cells #[.slice (some ⟨w2.heap.size, 0, none⟩) 2 2, .slice none 0 0] 26 (0, 0)) := (by rw [← hw3]; have := World.alloc_heap_new (w2.alloc (.cells #[.int .u8 1, .int .u8 2] 5)) (.cells #[.slice (some ⟨w2.heap.size, 0, none⟩) 2 2, .slice none 0 0] 26); rwa [World.size_alloc] at this); have hO3 := hO1.below hb3; have hl1 := hO1.lt; have hA := wk_append hO3 (b := some ⟨w2.heap.size + 1, 0, none⟩) (cb := 2) (fun w' hc => wk_ents (hc.obj hxa (fun h => by have := hl1.1 _ h; omega)) (hc.obj hxb (fun h => by have := hl1.1 _ h; omega))); have hAa : Calls Try.prog 60 #[.iface 31 (.pointer (some ⟨p, 0, none⟩)), .agg #[.int .i64 5, .slice none 0 0, .int .i64 0, .int .i64 0, .int .i64 0], .slice (some ⟨w2.heap.size + 1, 0, none⟩) 2 2] w3 (fun e w' => ∃ es F' G', e = .returned (.tuple #[.agg #[.int .i64 5, es, .int .i64 40, .int .i64 40, .int .i64 0], .int .i64 0]) ∧ EntIn (fun b => w3.heap.size ≤ b ∧ ¬ F' b ∧ ¬ G' b) w' es wkM ∧ One F' G' w' p wk2 ∧ Moved F1 G1 F' G' w3 w') := hA; have HW3 := Lib.hid hw3; clear hw3 hxa hxb hB hA)
    | rw [HW3.out]
    | (go_at_call 60; refine hAa.mono ?_; rintro _ w4 ⟨es4, F2, G2, rfl, hE4, hO4, hm4⟩; obtain ⟨ea, ec, rfl⟩ := hE4.slice; obtain ⟨w5, hw5⟩ : ∃ w5, w4.alloc (.cells #[.int .i64 5, .slice ea wkM.length ec, .int .i64 40, .int .i64 40, .int .i64 0] 54) = w5 := ⟨_, rfl⟩; have hb5 : Below w4.heap.size w4 w5 := (by rw [← hw5]; exact below_alloc _ _); have hx5 : w5.heap[w4.heap.size]? = some (.cells #[.int .i64 5, .slice ea wkM.length ec, .int .i64 40, .int .i64 40, .int .i64 0] 54 (0, 0)) := (by rw [← hw5]; exact World.alloc_heap_new _ _); have hSc : Calls Try.prog 61 #[.iface 31 (.pointer (some ⟨p, 0, none⟩)), .int .i64 5] w5 (fun e w' => ∃ es, e = .returned (.tuple #[.agg #[.int .i64 5, es, .int .i64 40, .int .i64 40, .int .i64 0], .int .i64 0]) ∧ EntIn (fun b => w5.heap.size ≤ b) w' es wkM ∧ Below w5.heap.size w5 w') := wk_scan_any (hO4.below hb5); have HW5 := Lib.hid hw5; clear hw5)
    | rw [HW5.out]
    | (go_at_call 61; refine hSc.mono ?_; rintro _ w6 ⟨es6, rfl, hE6, hb6⟩; obtain ⟨fa, fc, rfl⟩ := hE6.slice; obtain ⟨w7, hw7⟩ : ∃ w7, w6.alloc (.cells #[.int .i64 5, .slice fa wkM.length fc, .int .i64 40, .int .i64 40, .int .i64 0] 54) = w7 := ⟨_, rfl⟩; have hb7 : Below w6.heap.size w6 w7 := (by rw [← hw7]; exact below_alloc _ _); have hx7 : w7.heap[w6.heap.size]? = some (.cells #[.int .i64 5, .slice fa wkM.length fc, .int .i64 40, .int .i64 40, .int .i64 0] 54 (0, 0)) := (by rw [← hw7]; exact World.alloc_heap_new _ _); have hO7 := (hO4.below hb5).below (hb6.trans (hb7.mono hb6.size)); have hRd : Calls Try.prog 62 #[.iface 31 (.pointer (some ⟨p, 0, none⟩)), .int .i64 5, .int .i64 5] w7 (fun e w' => ∃ U, e = .returned (.tuple #[U, .int .i64 0]) ∧ BytesIn w' (fun b => w7.heap.size ≤ b) U [1, 2] ∧ Below w7.heap.size w7 w') := wk_read hO7; have HW7 := Lib.hid hw7; clear hw7)
    | rw [HW7.out]
    | (go_at_call 62; refine hRd.mono ?_; rintro _ w8 ⟨U, rfl, hU, hb8⟩; obtain ⟨ua, uc, rfl, _, _, hur⟩ := hU.row; have hx78 := (hb8.block _ (heap_lt hx7)).trans hx7; have p0 := cell_of_heap hx78 (i := 0) (v := .int .i64 5) (by rfl); have p1 := cell_of_heap hx78 (i := 1) (v := .slice fa wkM.length fc) (by rfl); have p2 := cell_of_heap hx78 (i := 2) (v := .int .i64 40) (by rfl); have p3 := cell_of_heap hx78 (i := 3) (v := .int .i64 40) (by rfl); have p4 := cell_of_heap hx78 (i := 4) (v := .int .i64 0) (by rfl); obtain ⟨_, _, e6, hat6⟩ := hE6.at_; cases e6; have hat8 := (hat6.below hb7).below hb8; have hAl := all_any (w := w8) (c := fc) (f := 5) (g := 40) (z := 40) (y := 0) hat8 (by decide) (by decide))
    | (go_at_call 28; refine hAl.mono ?_; rintro _ w9 ⟨es9, rfl, _, _, hb9⟩; have hx79 := (hb9.block _ (heap_lt hx78)).trans hx78; have p0 := cell_of_heap hx79 (i := 0) (v := .int .i64 5) (by rfl); have p1 := cell_of_heap hx79 (i := 1) (v := .slice fa wkM.length fc) (by rfl); have p2 := cell_of_heap hx79 (i := 2) (v := .int .i64 40) (by rfl); have p3 := cell_of_heap hx79 (i := 3) (v := .int .i64 40) (by rfl); have p4 := cell_of_heap hx79 (i := 4) (v := .int .i64 0) (by rfl); have hb59 := ((hb6.trans (hb7.mono hb6.size)).trans (hb8.mono (Nat.le_trans hb6.size hb7.size))).trans (hb9.mono (Nat.le_trans (Nat.le_trans hb6.size hb7.size) hb8.size)); have hx59 := (hb59.block _ (heap_lt hx5)).trans hx5; have q0 := cell_of_heap hx59 (i := 0) (v := .int .i64 5) (by rfl); have q1 := cell_of_heap hx59 (i := 1) (v := .slice ea wkM.length ec) (by rfl); have q2 := cell_of_heap hx59 (i := 2) (v := .int .i64 40) (by rfl); have q3 := cell_of_heap hx59 (i := 3) (v := .int .i64 40) (by rfl); have q4 := cell_of_heap hx59 (i := 4) (v := .int .i64 0) (by rfl); obtain ⟨_, _, e4, hat4⟩ := hE4.at_; cases e4; have hSm := rsegSame_any (w := w9) (c := ec) (d := fc) (f1 := 5) (g1 := 40) (z1 := 40) (y1 := 0) (f2 := 5) (g2 := 40) (z2 := 40) (y2 := 0) ((hat4.below hb5).below hb59) (hat8.below hb9) (by decide); rw [show ((5 : Int) == 5 && (40 : Int) == 40 && (40 : Int) == 40 && (0 : Int) == 0 && wkM == wkM) = true from by decide] at hSm)
    | (go_at_call 24; refine (num17_any _ _).mono ?_; rintro _ wn ⟨rfl, rfl⟩)
    | (go_at_call 23; refine hSm.mono ?_; rintro _ w10 ⟨rfl, hb10⟩; have hcv : (convert 26 9 (.slice ua 2 uc)).run Try.prog w10 = .ok (.string ⟨#[1, 2]⟩) w10 := run_conv (P := Try.prog) 26 9 5 Try.underlying26 Try.underlying5 Try.underlying9 (c := uc) (l := [1, 2]) ((hur.below hb9).below hb10)))
  go_ret
  refine ⟨rfl, ?_⟩
  have h1 : Below w.heap.size w w2 := hb1.trans (hm1.1.belowLo6 hb1.size (fun b hb => hFG0 b (.inl hb)))
  have h3 := h1.trans (hb3.mono h1.size)
  have h4 : Below w.heap.size w w4 := h3.trans (hm4.1.belowLo6 h3.size (fun b hb => by
    rcases (hm1.2.1 b hb).1 with h | h
    · exact hFG0 b (.inl h)
    · have := hb1.size; omega))
  have h5 := h4.trans (hb5.mono h4.size)
  have h9 := h5.trans (hb59.mono h5.size)
  exact h9.trans (hb10.mono h9.size)

end Go.Proofs.Ytgfdbcpakcnkpaa
