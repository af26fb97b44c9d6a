/- Texts of this claim, one behind the other: DlN, RfB. -/
import Derived.Test.YtehmnmpkfbginaaGreatFc17
import Derived.Test.YtehmnmpkfbginaaGreatFc14
import Derived.BigQuiet
import Derived.StillTailTactics
import Derived.Maps.Ext
set_option linter.unusedSimpArgs false
set_option linter.unusedVariables false
/- Disk: Of, walked. -/
namespace Go.Proofs.YtehmnmpkfbginaaGreat
open Go.RowKit Go.Maps Go.Shelf

theorem good_bad_name {L : List (List UInt8 × List UInt8)} {k : Nat} {x : List UInt8 × List UInt8} (hx : L[k]? = some x) (h : nameOk x.1 = false) : ¬ NamesGood L := fun hg => by
  have := hg.2 x (List.mem_of_getElem? hx)
  rw [← nameOk_true this] at h
  cases h
theorem good_bad_pair {L : List (List UInt8 × List UInt8)} {k : Nat} {x y : List UInt8 × List UInt8} (hx : L[k + 1]? = some x) (hy : L[k]? = some y) (h : bytesBefore y.1 x.1 = false) : ¬ NamesGood L := fun hg => by
  obtain ⟨h1, rfl⟩ := List.getElem?_eq_some_iff.1 hx
  obtain ⟨h2, rfl⟩ := List.getElem?_eq_some_iff.1 hy
  rw [(List.pairwise_iff_getElem.1 hg.1) k (k + 1) h2 h1 (by omega)] at h
  cases h
theorem good_first {L : List (List UInt8 × List UInt8)} {x : List UInt8 × List UInt8} (hx : L[0]? = some x) (h : nameOk x.1 = true) : NamesGood (L.take (0 + 1)) := by
  obtain ⟨hk, hx'⟩ := List.getElem?_eq_some_iff.1 hx
  have ht := List.take_succ_eq_append_getElem hk
  rw [hx'] at ht
  rw [ht]
  exact NamesGood.one (nameOk_iff.1 h)
theorem good_next {L : List (List UInt8 × List UInt8)} {k : Nat} {x y : List UInt8 × List UInt8} (hg : NamesGood (L.take (k + 1))) (hx : L[k + 1]? = some x) (hy : L[k]? = some y) (h : nameOk x.1 = true) (hb : bytesBefore y.1 x.1 = true) : NamesGood (L.take (k + 1 + 1)) := by
  obtain ⟨hk, hx'⟩ := List.getElem?_eq_some_iff.1 hx
  obtain ⟨hk2, hy'⟩ := List.getElem?_eq_some_iff.1 hy
  have ht := List.take_succ_eq_append_getElem hk
  rw [hx'] at ht
  rw [ht]
  refine hg.push ?_ hb (nameOk_iff.1 h)
  rw [List.take_succ_eq_append_getElem hk2, hy']
  simp

set_option maxRecDepth 100000 in
set_option maxHeartbeats 8000000 in
theorem Of_any {cap : Nat} (hc : cap ≤ 1099511627776) {w : World} {a : Option Addr} {c : Nat} {L : List (List UInt8 × List UInt8)} (hA : FilesArg w a L) (hLn : L.length ≤ maxList) (hsz : ∀ p ∈ L, p.2.length ≤ 140737488355328) (hnm : ∀ p ∈ L, p.1.length ≤ maxLen) :
    Calls Tryz.prog 6 #[.int .i64 (cap : Int), .slice a L.length c] w fun e w' => ((NamesGood L ∧ ∃ p own, e = .returned (.tuple #[.pointer (some ⟨p, 0, none⟩), .int .i64 0]) ∧ DiskAt w' p (DSt.ofFiles cap L) own (fun b => w.heap.size ≤ b ∧ b < w'.heap.size ∧ b ∉ own) ∧ (∀ b ∈ own, w.heap.size ≤ b)) ∨
      (¬ NamesGood L ∧ e = .returned (.tuple #[.pointer none, .int .i64 2]))) ∧ Below w.heap.size w w' := by
  have hmx : maxList = 4194304 := rfl
  have hmax : maxLen = 9223372036854775807 := rfl
  have g1 : decide ((cap : Int) < 0) = false := by simp
  have g2 : decide (1099511627776 < (cap : Int)) = false := by simp; omega
  have hmk := fun t w => run_makeMap (P := Tryz.prog) t w
  obtain ⟨w3, hw3⟩ : ∃ w3, ((w.alloc (.map #[] 0)).alloc (.map #[] 0)).alloc (.cells #[.int .i64 (cap : Int), .map (some w.heap.size), .map (some (w.heap.size + 1)), .map none, .slice none 0 0, .slice none 0 0, .int .i64 0] 68) = w3 := ⟨_, rfl⟩
  have hb3 : Below w.heap.size w w3 := by rw [← hw3]; exact ((below_alloc w _).alloc (by simp) _).alloc (by simp; omega) _
  have hz3 : w3.heap.size = w.heap.size + 1 + 1 + 1 := by rw [← hw3]; simp
  have hfm : w3.ownsMap Tryz.prog 3 ptrElem w.heap.size 0 (filesD []) := by rw [← hw3]; exact ((World.ownsMap_made w _ _ _).alloc _).alloc _
  have hnmp : w3.ownsMap Tryz.prog 9 (plainElem Tryz.prog 3) (w.heap.size + 1) 0 (nameD []) := by rw [← hw3]; have := (World.ownsMap_made (w.alloc (.map #[] 0)) Tryz.prog 9 (plainElem (H := Unit) Tryz.prog 3)).alloc (.cells #[.int .i64 (cap : Int), .map (some w.heap.size), .map (some (w.heap.size + 1)), .map none, .slice none 0 0, .slice none 0 0, .int .i64 0] 68); rwa [World.size_alloc] at this
  have hcl : w3.heap[w.heap.size + 1 + 1]? = some (.cells #[.int .i64 (cap : Int), .map (some w.heap.size), .map (some (w.heap.size + 1)), .map none, .slice none 0 0, .slice none 0 0, .int .i64 0] 68 (0, 0)) := by rw [← hw3]; have := World.alloc_heap_new ((w.alloc (.map #[] 0)).alloc (.map #[] 0)) (.cells #[.int .i64 (cap : Int), .map (some w.heap.size), .map (some (w.heap.size + 1)), .map none, .slice none 0 0, .slice none 0 0, .int .i64 0] 68); rwa [World.size_alloc, World.size_alloc] at this
  have HZ := Lib.hid hz3; clear hz3
  go_enter Tryz.func6, Tryz.ntmps6
  go_wp2_with fail
  go_loopw [23] (fun i wr => ∃ k : Nat, k ≤ L.length ∧ i = .int .i64 k ∧ OfAt w w3 L w.heap.size (w.heap.size + 1) (w.heap.size + 1 + 1) k wr ∧ Hid (NamesGood (L.take k))) (fun i _ => L.length - (RowKit.intOf i).toNat)
  case atStart => exact ⟨0, by omega, rfl, ⟨[], Nat.le_refl _, hb3, Chg.refl _ _, hfm, rfl, hnmp, fun i b q hb => (by simp at hb), fun b hb => (by simp at hb), List.nodup_nil⟩, NamesGood.nil⟩
  case round =>
    obtain ⟨k, hk, rfl, hof, HG⟩ := hrel
    have hz3 := HZ.out
    have hof' := hof
    obtain ⟨fb, a1, a2, a3, a4, a5, a6, a7, a8, a9⟩ := hof'
    have hpr := a3.obj hcl (by omega)
    by_cases hlt : k < L.length
    · obtain ⟨x, hx⟩ : ∃ x, L[k]? = some x := ⟨L[k]'hlt, by simp⟩
      have hxm := List.mem_of_getElem? hx
      have hx1 := hnm x hxm
      have hx2 := hsz x hxm
      obtain ⟨ab, ao, rfl, hcells⟩ := (hA.below a2) (fun e => by rw [e] at hlt; simp at hlt)
      obtain ⟨n1, ua, uc, u1, hnil, hrow⟩ := hcells k x hx
      have HC := Lib.hid hcells; clear hcells
      unfold sv at n1
      have hname := fun w => Name_any x.1 w (by omega)
      obtain ⟨W2, hW2⟩ : ∃ W2, wr.alloc (.cells #[.string ⟨x.1.toArray⟩, .slice ua x.2.length uc] 51) = W2 := ⟨_, rfl⟩
      have hb2 : Below wr.heap.size wr W2 := by rw [← hW2]; exact below_alloc _ _
      have hbw : W2.heap[wr.heap.size]? = some (.cells #[.string ⟨x.1.toArray⟩, .slice ua x.2.length uc] 51 (0, 0)) := by rw [← hW2]; exact World.alloc_heap_new wr _
      have d0 := cell_of_heap hbw (i := 0) (v := .string ⟨x.1.toArray⟩) (by rfl)
      have d1 := cell_of_heap hbw (i := 1) (v := .slice ua x.2.length uc) (by rfl)
      have hrow2 := hrow.below hb2
      have hwl := heap_lt hbw
      have j0 : (0 : Int) ≤ (k : Int) := by omega
      have j1 : (k : Int) < (L.length : Int) := by omega
      have HX := Lib.hid hx; clear hx
      have HO := Lib.hid hof; clear hof
      have hp2 := (hb2.block _ (heap_lt hpr)).trans hpr
      clear a4 a5 a6 a7 a8 a9
      have hs2 := hb2.size
      -- what the round does once the file is good
      cases hno : nameOk x.1 with
      | false =>
        rw [hno] at hname
        have hnq := fun w => (hname w).mono (fun e w' h => (⟨h.1, h.2.symm⟩ : e = _ ∧ w' = w))
        have hbad := good_bad_name HX.out hno
        have HB := Lib.hid hbad; clear hbad hno
        go_wp2
        go_quiet ((go_at_call 23; exact Calls.quiet_of_same (hnq _)))
        go_wp2
        go_ret2
        exact ⟨.inr ⟨HB.out, rfl⟩, below_drewN (a2.trans (hb2.mono a2.size)) _⟩
      | true =>
        rw [hno] at hname
        have hnq := fun w => (hname w).mono (fun e w' h => (⟨h.1, h.2.symm⟩ : e = _ ∧ w' = w))
        have HNO := Lib.hid hno; clear hno
        cases k with
        | zero =>
          have HGD := Lib.hid (good_first HX.out HNO.out)
          simp only [Nat.zero_mul, Nat.add_zero] at n1 u1
          have j2 : decide ((0 : Int) < ((0 : Nat) : Int)) = false := by decide
          go_wp2
          go_quiet ((go_at_call 23; exact Calls.quiet_of_same (hnq _)))
          have hcq := clone_any ua uc x.2 (W2.drewN nq) hnil (hrow2.below (below_drewN (Below.refl _ W2) nq)) hx2
          have hb2q : Below wr.heap.size wr (W2.drewN nq) := below_drewN hb2 nq
          have hbwq : (W2.drewN nq).heap[wr.heap.size]? = some (.cells #[.string ⟨x.1.toArray⟩, .slice ua x.2.length uc] 51 (0, 0)) := hbw
          have hwq : wr.heap.size < (W2.drewN nq).heap.size := hwl
          have d1q : (W2.drewN nq).cell? ⟨wr.heap.size, 1, none⟩ = some (.slice ua x.2.length uc) := d1
          clear d0 d1 hbw hwl hrow2 hrow n1 u1 hp2
          generalize W2.drewN nq = W3 at *
          go_wp2_with (go_at_call 24; refine hcq.mono ?_; rintro _ w4 ⟨U, rfl, hU, hb4⟩; obtain ⟨Ua, Uc, rfl, _⟩ := hU.row; have hb14 : Below wr.heap.size wr w4 := hb2q.trans (hb4.mono hb2q.size); have hU' : BytesIn w4 (NewIn wr w4) (.slice Ua x.2.length Uc) x.2 := hU.mono (fun b h => ⟨Nat.le_trans hb2q.size h.1, h.2⟩); obtain ⟨w5, w6, hst1, hst2, hc45, hnx⟩ := HO.out.step HX.out HGD.out (by omega) (by omega) (by omega) (by omega) (by omega) (by omega) (by omega) (by omega) hb14 hU' 73; push_cast at hst1 hst2; have hpo4 := (hb14.block _ (heap_lt hpr)).trans hpr; have p1 := cell_of_heap hpo4 (i := 1) (v := .map (some w.heap.size)) (by rfl); have p2 := cell_of_heap (hc45.obj hpo4 (by omega)) (i := 2) (v := .map (some (w.heap.size + 1))) (by rfl); have e0 := cell_of_heap (hc45.obj ((hb4.block _ hwq).trans hbwq) (by omega)) (i := 0) (v := .string ⟨x.1.toArray⟩) (by rfl); have HNX := Lib.hid hnx; clear hnx hU hU')
          go_still_tail 7, (by kernel_rfl)
          change wpList _ _ _ _ _ w5.drew
          go_wp2
          go_roundw
          case rel => exact ⟨_, by omega, by go_num, HNX.out, HGD⟩
          case measure => simp [RowKit.intOf]; omega
        | succ k =>
          obtain ⟨y, hy⟩ : ∃ y, L[k]? = some y := ⟨L[k]'(by omega), by simp⟩
          obtain ⟨m1, va, vc, v1, _, _⟩ := HC.out k y hy
          unfold sv at m1
          have m1' := (hb2.cell (p := ⟨ab, ao + k * 2, none⟩) (cell_lt m1)).trans m1
          have j2 : decide ((0 : Int) < ((k + 1 : Nat) : Int)) = true := decide_eq_true (by omega)
          have j3 : ((k + 1 : Nat) : Int) - 1 = (k : Int) := by omega
          have j4 : (k : Int) < (L.length : Int) := by omega
          have j5 : (0 : Int) ≤ (k : Int) := by omega
          have hls := less_eq y.1 x.1
          cases hbb : bytesBefore y.1 x.1 with
          | false =>
            rw [hbb] at hls
            have HB := Lib.hid (good_bad_pair HX.out hy hbb)
            clear hbb hy m1 v1
            go_wp2
            go_quiet ((go_at_call 23; exact Calls.quiet_of_same (hnq _)))
            go_wp2
            go_ret2
            exact ⟨.inr ⟨HB.out, rfl⟩, below_drewN (a2.trans (hb2.mono a2.size)) _⟩
          | true =>
            rw [hbb] at hls
            have HGD := Lib.hid (good_next HG.out HX.out hy HNO.out hbb)
            clear hbb hy m1 v1
            go_wp2
            go_quiet ((go_at_call 23; exact Calls.quiet_of_same (hnq _)))
            have hcq := clone_any ua uc x.2 (W2.drewN nq) hnil (hrow2.below (below_drewN (Below.refl _ W2) nq)) hx2
            have hb2q : Below wr.heap.size wr (W2.drewN nq) := below_drewN hb2 nq
            have hbwq : (W2.drewN nq).heap[wr.heap.size]? = some (.cells #[.string ⟨x.1.toArray⟩, .slice ua x.2.length uc] 51 (0, 0)) := hbw
            have hwq : wr.heap.size < (W2.drewN nq).heap.size := hwl
            have d1q : (W2.drewN nq).cell? ⟨wr.heap.size, 1, none⟩ = some (.slice ua x.2.length uc) := d1
            clear d0 d1 hbw hwl hrow2 hrow n1 u1 hp2
            generalize W2.drewN nq = W3 at *
            go_wp2_with (go_at_call 24; refine hcq.mono ?_; rintro _ w4 ⟨U, rfl, hU, hb4⟩; obtain ⟨Ua, Uc, rfl, _⟩ := hU.row; have hb14 : Below wr.heap.size wr w4 := hb2q.trans (hb4.mono hb2q.size); have hU' : BytesIn w4 (NewIn wr w4) (.slice Ua x.2.length Uc) x.2 := hU.mono (fun b h => ⟨Nat.le_trans hb2q.size h.1, h.2⟩); obtain ⟨w5, w6, hst1, hst2, hc45, hnx⟩ := HO.out.step HX.out HGD.out (by omega) (by omega) (by omega) (by omega) (by omega) (by omega) (by omega) (by omega) hb14 hU' 73; push_cast at hst1 hst2; have hpo4 := (hb14.block _ (heap_lt hpr)).trans hpr; have p1 := cell_of_heap hpo4 (i := 1) (v := .map (some w.heap.size)) (by rfl); have p2 := cell_of_heap (hc45.obj hpo4 (by omega)) (i := 2) (v := .map (some (w.heap.size + 1))) (by rfl); have e0 := cell_of_heap (hc45.obj ((hb4.block _ hwq).trans hbwq) (by omega)) (i := 0) (v := .string ⟨x.1.toArray⟩) (by rfl); have HNX := Lib.hid hnx; clear hnx hU hU')
            go_still_tail 7, (by kernel_rfl)
            change wpList _ _ _ _ _ w5.drew
            go_wp2
            go_roundw
            case rel => exact ⟨_, by omega, by go_num, HNX.out, HGD⟩
            case measure => simp [RowKit.intOf]; omega
    · obtain rfl : k = L.length := by omega
      rw [List.take_length] at a6 HG
      have c2 := cell_of_heap hpr (i := 2) (v := .map (some (w.heap.size + 1))) (by rfl)
      have hcn := cloneN_any a6
      have hplt := heap_lt hpr
      have HO := Lib.hid hof; clear hof a1 a3 a4 a5 a6 a7 a8 a9
      go_wp2_with (go_at_call 25; refine hcn.mono ?_; rintro _ w13 ⟨rfl, hm13, hb13⟩; have k3 := cell_of_heap ((hb13.block _ hplt).trans hpr) (i := 3) (v := .map none) (by rfl); have z3 := frozen_of_heap (i := 3) ((hb13.block _ hplt).trans hpr))
      go_ret2
      have hz3 := HZ.out
      obtain ⟨own, hD, hown, hbf⟩ := OfAt.done hcl HO.out hm13 hb13 (by omega) (by omega) (by omega) (by omega) (by omega) (by omega) (by omega) (by omega)
      exact ⟨.inl ⟨HG.out, _, own, rfl, hD, hown⟩, hbf⟩

end Go.Proofs.YtehmnmpkfbginaaGreat
/- A map from files' numbers to pointers, filled in an order that nobody knows. -/
namespace Go.Proofs.YtehmnmpkfbginaaGreat
open Go.RowKit Go.Maps

theorem ownsRow_at {w : World} {lo : Nat} {e : TypeId} {size : Nat} {v : Value} {n : Nat} {xs : List Value} (h : w.ownsRow lo e size v n xs) : ∃ a c, v = .slice a n c ∧ n ≤ c ∧ (a = none → c = 0) ∧ ∀ (i : Nat) u, xs[i]? = some u → ∃ g, a = some ⟨g, 0, none⟩ ∧ w.cell? ⟨g, i, none⟩ = some u := by
  rcases h.2 with ⟨rfl, rfl⟩ | ⟨g, cap, cur, rfl, _, hg, h1, _, _, ht⟩
  · exact ⟨none, 0, rfl, Nat.le_refl _, fun _ => rfl, fun i u hu => by have := h.1; simp at this; subst this; simp at hu⟩
  · refine ⟨_, cap, rfl, h1, (fun e => by cases e), fun i u hu => ⟨g, rfl, cell_of_heap hg ?_⟩⟩
    have : cur.toList[i]? = some u := by
      rw [← ht, List.getElem?_take] at hu
      split at hu
      · exact hu
      · cases hu
    simpa using this
/-- a map from numbers to the blocks g -/
def PtrMap (W : World) (m n : Nat) (g : Nat → Option Nat) : Prop :=
  ∃ D, W.ownsMap Tryz.prog 3 ptrElem m n D ∧ (∀ k : Lit, has D k = true → ∃ f : Nat, k = .int .i64 (f : Int)) ∧ (∀ f : Nat, has D (.int .i64 (f : Int)) = (g f).isSome) ∧ ∀ (f b : Nat), g f = some b → ∀ zd, D.atKey (.int .i64 (f : Int)) zd = .lit (.int .i64 (b : Int))
theorem PtrMap.of_chg {O : Nat → Prop} {W W' : World} {m n : Nat} {g : Nat → Option Nat} (h : PtrMap W m n g) (hc : Chg O W W') (hO : ¬ O m) : PtrMap W' m n g := by
  obtain ⟨D, h1, h2⟩ := h
  exact ⟨D, hc.map h1 hO, h2⟩
theorem PtrMap.made (w : World) : PtrMap (w.alloc (.map #[] 0)) w.heap.size 0 (fun _ => none) :=
  ⟨.map [], World.ownsMap_made w _ _ _, fun k h => (by cases h), fun _ => rfl, fun f b h => (by cases h)⟩
theorem PtrMap.mono {W : World} {m n n' : Nat} {g : Nat → Option Nat} (h : PtrMap W m n g) (hn : n ≤ n') : PtrMap W m n' g := by
  obtain ⟨D, h1, h2⟩ := h
  exact ⟨D, h1.mono hn, h2⟩
theorem PtrMap.store {W : World} {m n : Nat} {g : Nat → Option Nat} (h : PtrMap W m n g) (hn : n < maxLen) {f b : Nat} (hf : f < 9223372036854775808) :
    ∃ W', (Instr.mapUpdate 62 (.map (some m)) (.int .i64 (f : Int)) (.pointer (some ⟨b, 0, none⟩))).run Tryz.prog W = .ok () W' ∧ PtrMap W' m (n + 1) (fun x => if x = f then some b else g x) ∧ Chg (· = m) W W' := by
  obtain ⟨D, h1, h0, h2, h3⟩ := h
  obtain ⟨W', hr, hm, ht⟩ := h1.store (int_keyed Tryz.underlying3) Tryz.underlying62 hn (key_i64 hf) (ptrElem_mk b)
  refine ⟨W', hr, ?_, Chg.turned ht rfl⟩
  have hk : WideAt.IsKeyLit (.int .i64 (f : Int)) := trivial
  have hne : ∀ {x : Nat}, x ≠ f → (Lit.int .i64 (x : Int)) ≠ .int .i64 (f : Int) := fun hx e => hx (by simp at e; omega)
  refine ⟨_, hm, fun k hk' => ?_, fun x => ?_, fun x u hu => ?_⟩
  · by_cases hx : k = .int .i64 (f : Int)
    · exact ⟨f, hx⟩
    · rw [has_put_other hx] at hk'
      exact h0 k hk'
  · by_cases hx : x = f
    · subst hx; rw [has_put_same h1.isMap hk]; simp
    · rw [has_put_other (hne hx), h2]; simp [hx]
  · by_cases hx : x = f
    · subst hx
      simp at hu
      subst hu
      exact fun zd => atKey_put_same h1.isMap hk _ _
    · simp [hx] at hu
      exact fun zd => by rw [atKey_put_other (hne hx)]; exact h3 x u hu zd
theorem filesD_keys (fb : List Nat) {k : Lit} (h : has (filesD fb) k = true) : ∃ f : Nat, f < fb.length ∧ k = .int .i64 (f : Int) := by
  obtain ⟨p, hp, hs⟩ := List.any_eq_true.1 h
  obtain ⟨q, hq, rfl⟩ := List.mem_map.1 hp
  obtain ⟨_, h2, _⟩ := List.mem_zipIdx hq
  exact ⟨q.2, by simpa using h2, (WideAt.sameKey_eq hs).symm⟩
theorem filesD_has (fb : List Nat) (f : Nat) (hf : f < fb.length) : has (filesD fb) (.int .i64 (f : Int)) = true := by
  refine List.any_eq_true.2 ⟨fileE (fb[f], f), List.mem_map.2 ⟨(fb[f], f), ?_, rfl⟩, by simp [fileE, Lit.sameKey]⟩
  rw [List.mem_iff_getElem?]
  exact ⟨f, by rw [List.getElem?_zipIdx]; simp [hf]⟩
theorem filesD_canon {fb fb' : List Nat} (hl : fb'.length = fb.length) (h : Canon (filesD fb)) : Canon (filesD fb') := by
  obtain ⟨es, e, hp, hk⟩ := h
  unfold filesD at e
  simp only [DataW.map.injEq] at e
  subst e
  have keys : ∀ l : List Nat, (l.zipIdx.map fileE).map (·.1) = (List.range l.length).map (fun i : Nat => Lit.int .i64 (i : Int)) := fun l => by
    refine List.ext_getElem? fun i => ?_
    simp only [List.getElem?_map, List.getElem?_zipIdx]
    by_cases hi : i < l.length
    · simp [hi, fileE]
    · simp [hi]
  refine ⟨_, rfl, ?_, ?_⟩
  · have h1 : (((fb.zipIdx.map fileE).map (·.1)).Pairwise (fun p q => p.before q = true)) := List.pairwise_map.2 hp
    rw [keys, ← hl, ← keys] at h1
    exact List.pairwise_map.1 h1
  · intro p hp
    obtain ⟨q, hq, rfl⟩ := List.mem_map.1 hp
    trivial
/-- filled for all numbers: it is the files' map -/
theorem PtrMap.files {W : World} {m n : Nat} {g : Nat → Option Nat} (h : PtrMap W m n g) {fb fb' : List Nat} (hl : fb'.length = fb.length) (hc : Canon (filesD fb)) (hg : ∀ f, g f = fb'[f]?) : W.ownsMap Tryz.prog 3 ptrElem m n (filesD fb') := by
  obtain ⟨D, h1, h0, h2, h3⟩ := h
  have hD : D = filesD fb' := by
    refine Maps.ext (h1.canon (int_keyed Tryz.underlying3)) (filesD_canon hl hc) (fun k => ?_) (fun k z hk => ?_)
    · cases h4 : has D k with
      | true =>
        obtain ⟨f, rfl⟩ := h0 k h4
        rw [h2, hg] at h4
        have hf : f < fb'.length := by
          rcases Nat.lt_or_ge f fb'.length with h | h
          · exact h
          · rw [List.getElem?_eq_none h] at h4; cases h4
        exact (filesD_has fb' f hf).symm
      | false =>
        cases h5 : has (filesD fb') k with
        | false => rfl
        | true =>
          obtain ⟨f, hf, rfl⟩ := filesD_keys fb' h5
          rw [h2, hg] at h4
          simp [hf] at h4
    · obtain ⟨f, rfl⟩ := h0 k hk
      rw [h2, hg] at hk
      have hf : f < fb'.length := by
        rcases Nat.lt_or_ge f fb'.length with h | h
        · exact h
        · rw [List.getElem?_eq_none h] at hk; cases hk
      rw [h3 f fb'[f] (by rw [hg]; simp [hf]) z, filesD_at fb' f hf]
  rw [← hD]
  exact h1
/-- an element of the files' map is a pointer -/
theorem ptrElem_some {v : Value} {y : DataW Unit × List MemPlace} (h : ptrElem v = some y) : ∃ x : Option Nat, v = .pointer (x.map fun b => ⟨b, 0, none⟩) := by
  unfold ptrElem at h
  split at h
  · rename_i b; exact ⟨some b, rfl⟩
  · exact ⟨none, rfl⟩
  · cases h

end Go.Proofs.YtehmnmpkfbginaaGreat
