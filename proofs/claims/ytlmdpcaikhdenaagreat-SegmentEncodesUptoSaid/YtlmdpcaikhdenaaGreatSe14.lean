/- Texts of this claim, one behind the other: DkK, DkL. -/
import Derived.Test.YtlmdpcaikhdenaaGreatSe13
import Derived.Deep.WholeRow
import Derived.Deep.MidRow
import Derived.Deep.RegionLaw
import Derived.BigRegion
import Derived.BigQuiet
set_option linter.unusedSimpArgs false
set_option linter.unusedVariables false
/- Disk: slices.DeleteFunc over the pending writes. -/
namespace Go.Proofs.YtlmdpcaikhdenaaGreat
open Go.RowKit Go.Maps Go.Shelf

theorem run_store_func {P : Program} {w : World} {a : Addr} {m : Mode} (f : Fn) (x y : Array Value) : (store a (.func f x y) m).run P w = stored P w a (.func f x y) m := run_store P w a _ m rfl
attribute [local go_sem] run_store_func

theorem stay_filter_succ {f : Nat} {zs : List Wv} {j : Nat} {x : Wv} (hx : zs[j]? = some x) : (zs.take (j + 1)).filter (fun x => !(x.1 == f)) = (zs.take j).filter (fun x => !(x.1 == f)) ++ (if x.1 == f then [] else [x]) := by
  rw [List.take_add_one, hx, List.filter_append]
  congr 1
  simp only [Option.toList_some, List.filter_cons, List.filter_nil]
  cases x.1 == f <;> rfl

theorem splice_get {α : Type} (cur vs : List α) (o k : Nat) (h : o + vs.length ≤ cur.length) : (splice cur o vs)[k]? = if o ≤ k ∧ k < o + vs.length then vs[k - o]? else cur[k]? := by
  unfold splice
  simp only [List.getElem?_append, List.getElem?_take, List.getElem?_drop, List.length_take]
  grind
theorem heap_setCells : ∀ (vs : List Value) (o : Nat) (w : World) (g : Nat) (cur : List Value) (t : TypeId), w.heap[g]? = some (.cells cur.toArray t (0, 0)) → o + vs.length ≤ cur.length → (w.setCells g o vs).heap[g]? = some (.cells (splice cur o vs).toArray t (0, 0))
  | [], o, w, g, cur, t, h, _ => by simpa [World.setCells, splice] using h
  | v :: r, o, w, g, cur, t, h, hl => by
    have h1 := heap_set_cells (i := o) v h
    have e : cur.toArray.setIfInBounds o v = (cur.set o v).toArray := by simp
    rw [e] at h1
    have := heap_setCells r (o + 1) _ g (cur.set o v) t h1 (by simp at hl ⊢; omega)
    rw [World.setCells, this]
    congr 2
    simp at hl
    unfold splice
    apply congrArg
    apply List.ext_getElem?
    intro i
    simp only [List.getElem?_append, List.getElem?_take, List.getElem?_drop, List.length_take, List.getElem?_set, List.length_set, List.length_cons, List.getElem?_cons]
    grind
theorem Chg.setCells {O : Nat → Prop} {g : Nat} (hg : O g) : ∀ (vs : List Value) (o : Nat) (w : World), Chg O w (w.setCells g o vs)
  | [], _, w => Chg.refl _ w
  | v :: r, o, w => (Chg.set (a := ⟨g, o, none⟩) v hg).trans (Chg.setCells hg r (o + 1) _) (fun _ h _ => h)

theorem there_of {w : World} {g o n : Nat} {cur : List Value} {t : TypeId} (h : w.heap[g]? = some (.cells cur.toArray t (0, 0))) (hl : o + n ≤ cur.length) : w.there g o n := fun j hj => by
  refine ⟨?_, frozen_of_heap h⟩
  rw [cell_of_heap h (v := cur[o + j]'(by omega)) (by simp)]
  rfl

theorem run_clear_write (w : World) (b o n c : Nat) (hn : 0 < n) (ht : w.there b o (n * 4)) : ∃ zl : List Value, zl.length = n * 4 ∧ ∀ ty, (Builtin.clear_ #[111] ty #[.slice (some ⟨b, o, none⟩) n c]).run Tryz.prog w = .ok (.tuple #[]) (w.setCells b o zl) := by
  have hv := Tryz.zeroValue125 w
  obtain ⟨zl, hz⟩ : ∃ zl, zl = (Builtin.zeroCells #[.int .i64 0, .int .i64 0, .bool false, .nilFunc] n).toList := ⟨_, rfl⟩
  have hl : zl.length = n * 4 := by rw [hz]; simp [Builtin.zeroCells]
  have h1 : ∀ v ∈ zl, v.oneCell' = true := by
    intro v hv
    rw [hz] at hv
    simp only [Builtin.zeroCells, Array.toList_map, List.mem_map] at hv
    obtain ⟨i, _, rfl⟩ := hv
    have : i % 4 < 4 := Nat.mod_lt _ (by decide)
    show (#[Value.int .i64 0, .int .i64 0, .bool false, .nilFunc][i % 4]!).oneCell' = true
    match i % 4, this with
    | 0, _ => rfl
    | 1, _ => rfl
    | 2, _ => rfl
    | 3, _ => rfl
  have hst := run_storeCells_cells (P := Tryz.prog) b o zl 0 w (fun j hj => by simpa using (ht j (by omega)).1) (fun j hj => by simpa using (ht j (by omega)).2) h1
  simp only [Nat.add_zero] at hst
  refine ⟨zl, hl, fun ty => ?_⟩
  obtain ⟨m, rfl⟩ : ∃ m, n = m + 1 := ⟨n - 1, by omega⟩
  simp [Builtin.clear_, run_underlying Tryz.underlying111, hv, Value.cells, ← hz, hst]
theorem run_slice_loK {P : Program} (t e : TypeId) (k : Nat) (ht : P.underlying t = some (.slice e)) (he : ∀ w, (sizeOf e).run P w = Result.ok k w) (b : Nat) (len cap l : Nat) (hl : l ≤ len) (hc : l < cap) (w : World) :
    (Instr.slice t (.slice (some ⟨b, 0, none⟩) len cap) (some (.int .i64 l)) none none).run P w = Result.ok (.slice (some ⟨b, l * k, none⟩) (len - l) (cap - l)) w := by
  have he' : P.elem t = e := by simp [Program.elem, ht]
  have hne : ¬ cap = l := by omega
  have ha : (⟨b, 0, none⟩ : Addr).add (l * k) = ⟨b, l * k, none⟩ := by unfold Addr.add; split <;> simp_all
  rw [run_slice_l (t := t) (ht := by rw [he']; exact ht) (kl := .i64) (h0 := by omega) (h1 := by omega), he', he]
  simp [Result.andThen, sliced, hne, ha]
theorem run_slice_hiK {P : Program} (t e : TypeId) (k : Nat) (ht : P.underlying t = some (.slice e)) (he : ∀ w, (sizeOf e).run P w = Result.ok k w) (a : Option Addr) (len cap h : Nat) (hh : h ≤ cap) (w : World) :
    (Instr.slice t (.slice a len cap) none (some (.int .i64 h)) none).run P w = Result.ok (.slice a h cap) w := by
  have he' : P.elem t = e := by simp [Program.elem, ht]
  rw [run_slice_h (t := t) (ht := by rw [he']; exact ht) (kh := .i64) (h0 := by omega) (h2 := by omega), he', he]
  simp [Result.andThen, sliced]
  intro _; cases a <;> simp [Addr.add]

set_option maxRecDepth 100000 in
set_option maxHeartbeats 4000000 in
theorem deleteW_any {g cap f bx : Nat} {zs : List Wv} {cur : List Value} {w : World} (hg : w.heap[g]? = some (.cells cur.toArray 125 (0, 0))) (hcl : cur.length = cap * 4) (hzc : zs.length ≤ cap) (hc : CellsW cur 0 zs) (hn : zs.length ≤ 1000000000) (hbx : w.cell? ⟨bx, 0, none⟩ = some (.int .i64 (f : Int))) (hne : bx ≠ g) :
    Calls Tryz.prog 239 #[.slice (some ⟨g, 0, none⟩) zs.length cap, .func (.func 240) #[] #[.pointer (some ⟨bx, 0, none⟩)]] w fun e w' =>
      ∃ cur' : List Value, e = .returned (.slice (some ⟨g, 0, none⟩) (zs.filter (fun x => !(x.1 == f))).length cap) ∧ w'.heap[g]? = some (.cells cur'.toArray 125 (0, 0)) ∧ cur'.length = cap * 4 ∧ CellsW cur' 0 (zs.filter (fun x => !(x.1 == f))) ∧ Chg (· = g) w w' := by
  have hI := indexW_any (c := cap) hg hc (by omega) hbx
  rcases idx_cases (fun y => y.1 == f) zs with ⟨h1, h2⟩ | ⟨k, h1, hk, h2, h3⟩
  · have hf : zs.filter (fun x => !(x.1 == f)) = zs := List.filter_eq_self.2 (fun x hx => by rw [h2 x hx]; rfl)
    rw [h1] at hI
    rw [hf]
    have HF := Lib.hid hf; clear hf h1 h2
    go_enter Tryz.func239, Tryz.ntmps239
    go_wp2_with (go_at_call 244; refine hI.mono ?_; rintro _ w1 ⟨rfl, hb1⟩)
    go_ret
    exact ⟨cur, rfl, (hb1.block g (heap_lt hg)).trans hg, hcl, hc, Chg.of_below hb1⟩
  · rw [h1] at hI
    clear h1
    have hkk : ((k : Int) == -1) = false := by rw [beq_eq_false_iff_ne]; omega
    go_enter Tryz.func239, Tryz.ntmps239
    go_wp2_with (go_at_call 244; refine hI.mono ?_; rintro _ w1 ⟨rfl, hb1⟩)
    have hc1 : Chg (· = g) w w1 := Chg.of_below hb1
    have hg1 := (hb1.block g (heap_lt hg)).trans hg
    have h4 : (zs.take (k + 1)).filter (fun x => !(x.1 == f)) = zs.take k := by
      have e : zs[k]? = some zs[k] := by simp [hk]
      rw [stay_filter_succ e, h2, h3 _ e]; simp
    have hA := Lib.hid h4
    have hB := Lib.hid hc
    clear hb1 hI h2 h3 h4 hkk
    go_loopw [5, 6] (fun i j wr => ∃ (kk jj : Nat) (cu : List Value), i = .int .i64 (kk : Int) ∧ j = .int .i64 (jj : Int) ∧ jj ≤ zs.length ∧ kk < jj ∧ ((zs.take jj).filter (fun x => !(x.1 == f))).length = kk ∧ Chg (· = g) w wr ∧ wr.heap[g]? = some (.cells cu.toArray 125 (0, 0)) ∧ cu.length = cap * 4 ∧ CellsW cu 0 ((zs.take jj).filter (fun x => !(x.1 == f))) ∧ CellsW cu jj (zs.drop jj)) (fun _ j _ => zs.length - (RowKit.intOf j).toNat)
    case atStart =>
      refine ⟨k, k + 1, cur, rfl, by go_num, by omega, by omega, by rw [hA.out]; simp; omega, hc1, hg1, hcl, ?_, ?_⟩
      · rw [hA.out]
        intro t x hx c u hu
        rw [List.getElem?_take] at hx
        split at hx
        · exact hB.out t x hx c u hu
        · cases hx
      · intro t x hx c u hu
        rw [List.getElem?_drop] at hx
        have := hB.out (k + 1 + t) x hx c u hu
        rwa [Nat.zero_add] at this
    case round =>
      obtain ⟨kk, jj, cu, rfl, rfl, hjn, hkj, hlen, hc2, hg2, hcl2, hP, hS⟩ := hrel
      by_cases hlt : jj < zs.length
      · obtain ⟨x, hx⟩ : ∃ x, zs[jj]? = some x := ⟨zs[jj], by simp [hlt]⟩
        have hfs := Lib.hid (stay_filter_succ (f := f) hx)
        have hcc : ∀ c u, (encW x)[c]? = some u → cu[jj * 4 + c]? = some u := fun c u hu => by
          have := hS 0 x (by rw [List.getElem?_drop]; exact hx) c u hu
          simpa using this
        obtain ⟨xf, xs, xc, xF, xC⟩ := x
        have e0 := cell_of_heap hg2 (i := jj * 4 + 0) (v := .int .i64 (xf : Int)) (by have := hcc 0 _ rfl; simpa using this)
        have e1 := cell_of_heap hg2 (i := jj * 4 + 1) (v := .int .i64 (xs : Int)) (by have := hcc 1 _ rfl; simpa using this)
        have e2 := cell_of_heap hg2 (i := jj * 4 + 2) (v := .bool xc) (by have := hcc 2 _ rfl; simpa using this)
        have e3 := cell_of_heap hg2 (i := jj * 4 + 3) (v := .func (.func xF) #[] xC) (by have := hcc 3 _ rfl; simpa using this)
        simp only [Nat.add_zero] at e0
        have j0 : (0 : Int) ≤ (jj : Int) := by omega
        have j1 : (jj : Int) < (zs.length : Int) := by omega
        have HL := Lib.hid hlen; clear hlen hcc
        obtain ⟨W2, hW2⟩ : ∃ W2, wr.alloc (.cells #[.int .i64 (xf : Int), .int .i64 (xs : Int), .bool xc, .func (.func xF) #[] xC] 125) = W2 := ⟨_, rfl⟩
        have hb2 : Below wr.heap.size wr W2 := by rw [← hW2]; exact below_alloc _ _
        have hbox : W2.heap[wr.heap.size]? = some (.cells #[.int .i64 (xf : Int), .int .i64 (xs : Int), .bool xc, .func (.func xF) #[] xC] 125 (0, 0)) := by rw [← hW2]; exact World.alloc_heap_new wr _
        have hz2 : W2.heap.size = wr.heap.size + 1 := by rw [← hW2]; simp
        have hgr := heap_lt hg2
        have b0 := cell_of_heap hbox (i := 0) (v := .int .i64 (xf : Int)) (by rfl)
        have b1 := cell_of_heap hbox (i := 1) (v := .int .i64 (xs : Int)) (by rfl)
        have b2 := cell_of_heap hbox (i := 2) (v := .bool xc) (by rfl)
        have b3 := cell_of_heap hbox (i := 3) (v := .func (.func xF) #[] xC) (by rfl)
        have hcb2 : Chg (· = g) w W2 := hc2.trans (Chg.of_below hb2) (fun _ h _ => h)
        have hdel := delPred (n := f) (bx := bx) (W := W2) (hcb2.cell hbx hne) (xf, xs, xc, xF, xC)
        simp only [] at hdel hfs
        have hg3 := (hb2.block g hgr).trans hg2
        have HZ2 := Lib.hid hz2
        have hzl : wr.heap.size < W2.heap.size := by omega
        have HP := Lib.hid hP; clear hP
        have HS := Lib.hid (show CellsW cu (jj + 1) (zs.drop (jj + 1)) from fun t x hx c u hu => by
          rw [List.getElem?_drop] at hx
          have := hS (t + 1) x (by rw [List.getElem?_drop, show jj + (t + 1) = jj + 1 + t from by omega]; exact hx) c u hu
          rwa [show jj + (t + 1) = jj + 1 + t from by omega] at this)
        clear hz2 hS
        cases hq : (xf == f) with
        | true =>
          rw [hq] at hdel
          have hF : (zs.take (jj + 1)).filter (fun x => !(x.1 == f)) = (zs.take jj).filter (fun x => !(x.1 == f)) := by rw [hfs.out, hq]; simp
          clear hq
          go_wp2_with (go_at_call 240; refine hdel.mono ?_; rintro _ wd ⟨rfl, hbd⟩)
          go_roundw
          case rel => exact ⟨kk, jj + 1, cu, rfl, by go_num, by omega, by omega, by rw [hF]; exact HL.out, hcb2.trans (Chg.of_below hbd) (fun _ h _ => h), (hbd.block g (Nat.lt_of_lt_of_le hgr hb2.size)).trans hg3, hcl2, by rw [hF]; exact HP.out, HS.out⟩
          case measure => simp [RowKit.intOf]; omega
        | false =>
          rw [hq] at hdel
          have hF : (zs.take (jj + 1)).filter (fun x => !(x.1 == f)) = (zs.take jj).filter (fun x => !(x.1 == f)) ++ [(xf, xs, xc, xF, xC)] := by rw [hfs.out, hq]; rfl
          clear hq
          have HL2 : kk < cap := by omega
          go_wp2_with fail
          refine hdel.mono ?_
          rintro _ wd ⟨rfl, hbd⟩
          have hgd := (hbd.block g (Nat.lt_of_lt_of_le hgr hb2.size)).trans hg3
          have hbd' := (hbd.block wr.heap.size hzl).trans hbox
          have v0 := cell_of_heap hbd' (i := 0) (v := .int .i64 (xf : Int)) (by rfl)
          have v1 := cell_of_heap hbd' (i := 1) (v := .int .i64 (xs : Int)) (by rfl)
          have v2 := cell_of_heap hbd' (i := 2) (v := .bool xc) (by rfl)
          have v3 := cell_of_heap hbd' (i := 3) (v := .func (.func xF) #[] xC) (by rfl)
          have i0 : (0 : Int) ≤ (kk : Int) := by omega
          have i1 : (kk : Int) < (zs.length : Int) := by omega
          have hth := there_of (o := kk * 4) (n := 4) hgd (by rw [hcl2]; omega)
          have q0 : (∃ u, wd.cell? ⟨g, kk * 4, none⟩ = some u) ∧ wd.frozen? ⟨g, kk * 4, none⟩ = false := ⟨Option.isSome_iff_exists.1 (hth 0 (by omega)).1, (hth 0 (by omega)).2⟩
          have q1 : (∃ u, wd.cell? ⟨g, kk * 4 + 1, none⟩ = some u) ∧ wd.frozen? ⟨g, kk * 4 + 1, none⟩ = false := ⟨Option.isSome_iff_exists.1 (hth 1 (by omega)).1, (hth 1 (by omega)).2⟩
          have q2 : (∃ u, wd.cell? ⟨g, kk * 4 + 2, none⟩ = some u) ∧ wd.frozen? ⟨g, kk * 4 + 2, none⟩ = false := ⟨Option.isSome_iff_exists.1 (hth 2 (by omega)).1, (hth 2 (by omega)).2⟩
          have q3 : (∃ u, wd.cell? ⟨g, kk * 4 + 3, none⟩ = some u) ∧ wd.frozen? ⟨g, kk * 4 + 3, none⟩ = false := ⟨Option.isSome_iff_exists.1 (hth 3 (by omega)).1, (hth 3 (by omega)).2⟩
          obtain ⟨⟨u0, t0⟩, s0⟩ := q0
          obtain ⟨⟨u1, t1⟩, s1⟩ := q1
          obtain ⟨⟨u2, t2⟩, s2⟩ := q2
          obtain ⟨⟨u3, t3⟩, s3⟩ := q3
          have hgs := heap_setCells (encW (xf, xs, xc, xF, xC)) (kk * 4) wd g cu _ hgd (by rw [hcl2, encW_len]; omega)
          have hcs : Chg (· = g) wd (wd.setCells g (kk * 4) (encW (xf, xs, xc, xF, xC))) := Chg.setCells (O := (· = g)) rfl _ _ _
          have hsl : (splice cu (kk * 4) (encW (xf, xs, xc, xF, xC))).length = cap * 4 := by rw [length_splice _ _ _ (by rw [hcl2, encW_len]; omega), hcl2]
          have hsg := fun k => splice_get cu (encW (xf, xs, xc, xF, xC)) (kk * 4) k (by rw [hcl2, encW_len]; omega)
          have hP2 : CellsW (splice cu (kk * 4) (encW (xf, xs, xc, xF, xC))) 0 ((zs.take jj).filter (fun x => !(x.1 == f)) ++ [(xf, xs, xc, xF, xC)]) := by
            intro t x hx c u hu
            have hcl : c < 4 := by have := (List.getElem?_eq_some_iff.1 hu).1; simpa [encW] using this
            rw [hsg, encW_len]
            rw [List.getElem?_append, HL.out] at hx
            split at hx
            · rw [if_neg (by omega)]
              exact HP.out t x hx c u hu
            · have ht : t = kk := by
                have := (List.getElem?_eq_some_iff.1 hx).1
                simp at this; omega
              subst ht
              simp at hx
              subst hx
              rw [if_pos (by omega), show (0 + t) * 4 + c - t * 4 = c from by omega]
              exact hu
          have hS2 : CellsW (splice cu (kk * 4) (encW (xf, xs, xc, xF, xC))) (jj + 1) (zs.drop (jj + 1)) := by
            intro t x hx c u hu
            rw [hsg, encW_len, if_neg (by omega)]
            exact HS.out t x hx c u hu
          have HGS := Lib.hid hgs; clear hgs
          have HCS := Lib.hid hcs; clear hcs
          have HSL := Lib.hid hsl; clear hsl
          have HP2 := Lib.hid hP2; clear hP2
          have HS2 := Lib.hid hS2; clear hS2
          have HF := Lib.hid hF; clear hF
          clear hsg
          go_wp2
          go_roundw
          case rel => exact ⟨kk + 1, jj + 1, _, by go_num, by go_num, by omega, by omega, by rw [HF.out, List.length_append, HL.out]; rfl, (hcb2.trans (Chg.of_below hbd) (fun _ h _ => h)).trans HCS.out (fun _ h _ => h), HGS.out, HSL.out, by rw [HF.out]; exact HP2.out, HS2.out⟩
          case measure => simp [RowKit.intOf]; omega
      · obtain rfl : jj = zs.length := by omega
        obtain ⟨zl, hzl, hclr⟩ := run_clear_write wr g (kk * 4) (zs.length - kk) (cap - kk) (by omega) (there_of hg2 (by rw [hcl2]; omega))
        have hs1 := run_slice_loK (P := Tryz.prog) 111 125 4 Tryz.underlying111 Tryz.sizeOf125 g zs.length cap kk (by omega) (by omega)
        have hs2 := run_slice_hiK (P := Tryz.prog) 111 125 4 Tryz.underlying111 Tryz.sizeOf125 (some ⟨g, 0, none⟩) zs.length cap kk (by omega)
        have hg3 := heap_setCells zl (kk * 4) wr g cu _ hg2 (by rw [hcl2, hzl]; omega)
        have hc3 : Chg (· = g) w (wr.setCells g (kk * 4) zl) := hc2.trans (Chg.setCells (O := (· = g)) rfl zl _ _) (fun _ h _ => h)
        have hsl : (splice cu (kk * 4) zl).length = cap * 4 := by rw [length_splice _ _ _ (by rw [hcl2, hzl]; omega), hcl2]
        have hsg := fun k => splice_get cu zl (kk * 4) k (by rw [hcl2, hzl]; omega)
        rw [List.take_length] at hlen hP
        have hP2 : CellsW (splice cu (kk * 4) zl) 0 (zs.filter (fun x => !(x.1 == f))) := by
          intro t x hx c u hu
          have hcl : c < 4 := by have := (List.getElem?_eq_some_iff.1 hu).1; simpa [encW] using this
          have htl := (List.getElem?_eq_some_iff.1 hx).1
          rw [hsg, if_neg (by omega)]
          exact hP t x hx c u hu
        have HG3 := Lib.hid hg3; clear hg3
        have HC3 := Lib.hid hc3; clear hc3
        have HSL := Lib.hid hsl; clear hsl
        have HP2 := Lib.hid hP2; clear hP2
        have HL := Lib.hid hlen; clear hlen
        generalize wr.setCells g (kk * 4) zl = w4 at *
        clear hsg hP hS
        go_wp2
        go_ret
        exact ⟨_, by rw [HL.out]; rfl, HG3.out, HSL.out, HP2.out, HC3.out⟩

end Go.Proofs.YtlmdpcaikhdenaaGreat
/- Disk: Sync. -/
namespace Go.Proofs.YtlmdpcaikhdenaaGreat
open Go.RowKit Go.Maps Go.Shelf

theorem pairs_of {w : World} {R : Nat → Prop} : ∀ (ws : List (List Value)) (W : List Wr), ws.length = W.length → (∀ (i : Nat) c x, ws[i]? = some c → W[i]? = some x → WrIn w R c x) →
    ∃ ps : List (Wv × Wr), ws = ps.map (fun p => encW p.1) ∧ W = ps.map (·.2) ∧ ∀ p ∈ ps, p.1.1 = p.2.file ∧ WrIn w R (encW p.1) p.2
  | [], [], _, _ => ⟨[], rfl, rfl, fun p hp => by cases hp⟩
  | [], _ :: _, h, _ => by simp at h
  | _ :: _, [], h, _ => by simp at h
  | c :: r, x :: W, h, hw => by
    obtain ⟨ps, e1, e2, h3⟩ := pairs_of r W (by simpa using h) (fun i c x hc hx => hw (i + 1) c x (by simpa using hc) (by simpa using hx))
    have h0 := hw 0 c x rfl rfl
    have h0' := h0
    obtain ⟨f, hc, hl⟩ := h0
    have hfn : ∃ F C, f = Value.func (.func F) #[] C := by
      unfold LayIn at hl
      split at hl
      · obtain ⟨y, e, _⟩ := hl; exact ⟨_, _, e⟩
      · obtain ⟨y, z, u, e, _⟩ := hl; exact ⟨_, _, e⟩
    obtain ⟨F, C, rfl⟩ := hfn
    subst hc
    refine ⟨((x.file, x.data.length, x.cut, F, C), x) :: ps, by rw [e1]; rfl, by rw [e2]; rfl, fun p hp => ?_⟩
    rcases List.mem_cons.1 hp with rfl | hp
    · exact ⟨rfl, h0'⟩
    · exact h3 p hp

theorem deleteW_nil {bx : Nat} {w : World} :
    Calls Tryz.prog 239 #[.slice none 0 0, .func (.func 240) #[] #[.pointer (some ⟨bx, 0, none⟩)]] w fun e w' => e = .returned (.slice none 0 0) ∧ Below w.heap.size w w' := by
  have hI : Calls Tryz.prog 244 #[.slice none 0 0, .func (.func 240) #[] #[.pointer (some ⟨bx, 0, none⟩)]] w fun e w' => e = .returned (.int .i64 (-1)) ∧ w = w' := by
    go_enter Tryz.func244, Tryz.ntmps244
    go_wp2
    refine wp_loop_rounds 1 ?_
    rw [rounds_succ]
    go_wp2
    go_ret
    exact ⟨rfl, rfl⟩
  go_enter Tryz.func239, Tryz.ntmps239
  go_wp2_with (go_at_call 244; refine hI.mono ?_; rintro _ w1 ⟨rfl, rfl⟩)
  go_ret
  exact ⟨rfl, Below.refl _ _⟩

theorem deleteW_row {f bx : Nat} {zs : List Wv} {v : Value} {w : World} (h : w.ownsRow 0 125 4 v zs.length ((zs.map encW).flatten)) (hn : zs.length ≤ 1000000000) (hbx : w.cell? ⟨bx, 0, none⟩ = some (.int .i64 (f : Int))) (hne : v.ownBlock ≠ some bx) :
    Calls Tryz.prog 239 #[v, .func (.func 240) #[] #[.pointer (some ⟨bx, 0, none⟩)]] w fun e w' =>
      ∃ v', e = .returned v' ∧ w'.ownsRow 0 125 4 v' (zs.filter (fun x => !(x.1 == f))).length (((zs.filter (fun x => !(x.1 == f))).map encW).flatten) ∧ v'.ownBlock = v.ownBlock ∧ Chg (fun k => v.ownBlock = some k) w w' := by
  obtain ⟨_, h⟩ := h
  rcases h with ⟨rfl, hz⟩ | ⟨g, cap, cur, rfl, _, hg, hle, hm, hsz, ht⟩
  · obtain rfl : zs = [] := List.eq_nil_of_length_eq_zero hz
    refine deleteW_nil.mono ?_
    rintro _ w' ⟨rfl, hb⟩
    exact ⟨.slice none 0 0, rfl, World.ownsRow_nil w' 0 125 4, rfl, Chg.of_below hb⟩
  · have hfl : (zs.filter (fun x => !(x.1 == f))).length ≤ cap := Nat.le_trans (List.length_filter_le _ _) hle
    refine (deleteW_any (cap := cap) (cur := cur.toList) (by simpa using hg) (by simpa using hsz) hle (cells_of_flat _ _ ht) hn hbx (fun e => hne (by rw [← e]; rfl))).mono ?_
    rintro _ w' ⟨cur', rfl, hg', hl', hc', hch⟩
    refine ⟨_, rfl, ⟨by rw [flat_len], .inr ⟨g, cap, cur'.toArray, rfl, Nat.zero_le _, hg', hfl, hm, by simpa using hl', ?_⟩⟩, rfl, hch.mono (fun x hx _ => by subst hx; rfl)⟩
    exact take_of_cells _ _ hc'

def DSt.syncAt (s : DSt) (f : Nat) : DSt := { s with files := s.files.set f (s.stands f, s.stands f), writes := s.writes.filter (fun x => !(x.file == f)) }
theorem sync_some {s : DSt} {k : List UInt8} {f : Nat} (hf : nlFind s.names k = some f) : s.sync k = (s.tick.syncAt f, 0) := by unfold DSt.sync; rw [hf]; rfl
theorem enters_sync1 : enters 238 := fun args w => by go_simp

set_option maxRecDepth 100000 in
set_option maxHeartbeats 4000000 in
theorem sync1_any {w0 w : World} {p : Nat} {s : DSt} {R : Nat → Prop} {mf mn ms : Nat} {fb : List Nat} {vs vw : Value} {ss : List Value} {ws : List (List Value)} {e : TypeId} (h : DiskP w p s R mf mn ms fb vs vw ss ws e)
    (hc : Chg (· ∈ ownL p mf mn vs vw fb) w0 w) (hR : ∀ b, R b → b < w0.heap.size ∧ b ∉ ownL p mf mn vs vw fb) {N : Nat} (hok : s.Ok N) (hN : N < maxList) {n : Nat} {k : List UInt8} (hf : nlFind s.names k = some n)
    {bd : Nat} (cd : w.cell? ⟨bd, 0, none⟩ = some (.pointer (some ⟨p, 0, none⟩))) (hbd : bd ∉ ownL p mf mn vs vw fb) :
    Calls Tryz.prog 238 #[.int .i64 (n : Int), .pointer (some ⟨bd, 0, none⟩)] w fun e w' => ∃ v, e = .returned (.int .i64 v) ∧ v = 0 ∧ Turns w0 w' p (s.syncAt n) (ownL p mf mn vs vw fb) R := by
  have hmx : maxList = 4194304 := rfl
  have hn := (hok.names _ (nlFind_mem hf)).1
  have hnn : n ≤ 4194304 := by have := hok.manyFiles; omega
  obtain ⟨o, ho⟩ : ∃ o, o = Obj.cells #[.int .i64 (n : Int)] 3 := ⟨_, rfl⟩
  have hb1 := below_alloc w o
  have h1 := h.below hb1
  have hbx1 : (w.alloc o).heap[w.heap.size]? = some o := World.alloc_heap_new w o
  have hz1 : (w.alloc o).heap.size = w.heap.size + 1 := World.size_alloc _ _
  have cd1 := (hb1.cell (p := ⟨bd, 0, none⟩) (cell_lt cd)).trans cd
  have hc1 : Chg (· ∈ ownL p mf mn vs vw fb) w0 (w.alloc o) := hc.trans (Chg.of_below hb1) (fun _ h _ => h)
  have hltp := heap_lt h.cells
  have hown : ∀ b ∈ ownL p mf mn vs vw fb, b < w.heap.size := fun b hb => h.lt hb
  obtain ⟨b, e', vd, vs', hfb, hfh, hbd', hbs, hlk⟩ := h1.file_at (n := n) hn (by omega)
  obtain ⟨da, dc, rfl, _, _, _⟩ := hbd'.row
  go_enter Tryz.func238, Tryz.ntmps238
  go_wp2
  rw [← ho]
  generalize w.alloc o = w1 at *
  subst ho
  have c1 := cell_of_heap h1.cells (i := 1) (v := .map (some mf)) (by rfl)
  have d0 := cell_of_heap hbx1 (i := 0) (v := .int .i64 (n : Int)) (by rfl)
  go_quiet (fail)
  have hcn : Chg (fun _ => False) w1 (w1.drewN nq) := (Chg.refl _ w1).drewN nq
  have h2 := h1.drewN nq
  have hbd2 := hbd'.kept hcn (fun _ _ h => h) (fun _ h => h)
  have hfh2 := hcn.obj hfh (fun h => h)
  have hbx2 := hcn.obj hbx1 (fun h => h)
  have cd2 := hcn.cell cd1 (fun h => h)
  have hc2 : Chg (· ∈ ownL p mf mn vs vw fb) w0 (w1.drewN nq) := hc1.drewN nq
  have hz2 : (w1.drewN nq).heap.size = w.heap.size + 1 := hz1
  clear hbd' hbs hfh hbx1 hlk c1 d0 hcn hb1 hz1 h1 cd1 hc1
  generalize w1.drewN nq = w2 at *
  have f0 := cell_of_heap hfh2 (i := 0) (v := .slice da (s.stands n).length dc) (by rfl)
  obtain ⟨f1v, f1⟩ : ∃ u, w2.cell? ⟨b, 1, none⟩ = some u := ⟨vs', cell_of_heap hfh2 (by rfl)⟩
  have z1 := frozen_of_heap (i := 1) hfh2
  have hc23 : Chg (· = b) w2 (w2.setCell ⟨b, 1, none⟩ (.slice da (s.stands n).length dc)) := Chg.set _ rfl
  have hbm := mem_own_fb (p := p) (mf := mf) (mn := mn) (vs := vs) (vw := vw) (List.mem_of_getElem? hfb)
  have hRb : ∀ y, R y → ¬ y = b := fun y hy e => (hR y hy).2 (e ▸ hbm)
  have h3 := h2.setFile hfb (d := s.stands n) (d' := s.stands n) hc23 ⟨e', _, _, heap_set_cells (i := 1) (.slice da (s.stands n).length dc) hfh2, hbd2.kept hc23 hRb (fun _ h => h), hbd2.kept hc23 hRb (fun _ h => h)⟩
  have hc3 : Chg (· ∈ ownL p mf mn vs vw fb) w0 (w2.setCell ⟨b, 1, none⟩ (.slice da (s.stands n).length dc)) := hc2.trans hc23 (fun y e _ => by subst e; exact hbm)
  have hblt := hown b hbm
  have hbx3 := hc23.obj hbx2 (by show ¬ (w.heap.size = b); omega)
  have cd3 := hc23.cell cd2 (by show ¬ (bd = b); exact fun e => hbd (e ▸ hbm))
  have hsw : (w2.setCell ⟨b, 1, none⟩ (.slice da (s.stands n).length dc)).heap.size = w.heap.size + 1 := by rw [← hz2]; simp [World.setCell]
  have HSW := Lib.hid hsw; clear hsw
  have HZ2 := Lib.hid hz2; clear hz2
  have HR := Lib.hid hR; clear hR
  have HRb := Lib.hid hRb; clear hRb
  have HOWN := Lib.hid hown; clear hown
  go_wp2
  generalize w2.setCell ⟨b, 1, none⟩ (.slice da (s.stands n).length dc) = w3 at *
  clear hc23 hbx2 cd2 h2 hbd2 hfh2 f0 f1 z1
  have hcd : Chg (fun _ => False) w3 w3.drew := (Chg.refl _ w3).drew
  have h4 := h3.kept hcd (fun _ _ h => h) (fun _ _ h => h)
  have c5 := cell_of_heap h3.cells (i := 5) (v := vw) (by rfl)
  obtain ⟨ps, e1, e2, e3⟩ := pairs_of ws s.writes h3.count4 h3.write
  have hcell4 := h4.cells
  have hdel := deleteW_row (w := w3.drew) (f := n) (bx := w.heap.size) (zs := ps.map (·.1)) (v := vw) (by
    have := h4.writesR
    rw [e1] at this
    have e4 : s.writes.length = (ps.map (·.1)).length := by rw [e2]; simp
    rw [e4] at this
    have e5 : (ps.map (·.1)).map encW = ps.map (fun p => encW p.1) := by simp
    rw [e5]; exact this) (by have := hok.manyWrites; rw [e2] at this; simp at this ⊢; omega) (cell_of_heap (hcd.obj hbx3 (fun h => h)) (i := 0) (by rfl)) (fun e => by have := HOWN.out _ (mem_own_vw (p := p) (mf := mf) (mn := mn) (vs := vs) (fb := fb) e); omega)
  obtain ⟨n1, n2, n3, n4, n5⟩ := h.ne_p
  have HC4 := Lib.hid hcell4; clear hcell4
  go_region_law (first | (go_simp; refine hdel.mono ?_; rintro _ w5 ⟨v', rfl, hrow5, hat5, hch5⟩; obtain ⟨va, vc, rfl⟩ := row_slice hrow5; have k5 := cell_of_heap (hch5.obj HC4.out (fun e => n4 _ e rfl)) (i := 5) (v := vw) (by rfl); have z5 := frozen_of_heap (i := 5) (hch5.obj HC4.out (fun e => n4 _ e rfl)); have kd := hch5.cell (hcd.cell cd3 (fun h => h)) (fun e => hbd (mem_own_vw e))))
  all_goals
    go_wp2
    go_ret
    have hwf : (s.writes.filter (fun x => !(x.file == n))) = (ps.filter (fun q => !(q.1.1 == n))).map (·.2) := by
      rw [e2, List.filter_map]
      congr 1
      apply List.filter_congr
      intro q hq
      simp only [Function.comp]
      rw [(e3 q hq).1]
    have hzf : ((ps.map (·.1)).filter (fun x => !(x.1 == n))) = (ps.filter (fun q => !(q.1.1 == n))).map (·.1) := by
      rw [List.filter_map]; rfl
    have hrow6 : w5.ownsRow 0 125 4 (.slice va ((ps.map (·.1)).filter (fun x => !(x.1 == n))).length vc) (s.writes.filter (fun x => !(x.file == n))).length ((ps.filter (fun q => !(q.1.1 == n))).map (fun p => encW p.1)).flatten := by
      have e4 : (s.writes.filter (fun x => !(x.file == n))).length = ((ps.map (·.1)).filter (fun x => !(x.1 == n))).length := by rw [hwf, hzf]; simp
      have e5 : (ps.filter (fun q => !(q.1.1 == n))).map (fun p => encW p.1) = ((ps.map (·.1)).filter (fun x => !(x.1 == n))).map encW := by rw [hzf]; simp
      rw [e4, e5]
      exact hrow5
    refine ⟨_, rfl, rfl, Turns.after' hc3 HR.out (h3.setWrites (W := s.writes.filter (fun x => !(x.file == n))) (ws' := (ps.filter (fun q => !(q.1.1 == n))).map (fun p => encW p.1)) (((Chg.refl _ w3).drew).trans hch5 (fun _ h _ => h)) hrow6 (.inl hat5) (by rw [hwf]; simp) ?_) (fun y hy => .inl hy) (fun y hy => .inl hy)⟩
    intro i c y hc' hy
    rw [hwf] at hy
    rw [List.getElem?_map, Option.map_eq_some_iff] at hc' hy
    obtain ⟨q1, hq1, rfl⟩ := hc'
    obtain ⟨q2, hq2, rfl⟩ := hy
    rw [hq1] at hq2
    cases hq2
    exact (e3 q1 (List.mem_filter.1 (List.mem_of_getElem? hq1)).1).2

set_option maxRecDepth 100000 in
set_option maxHeartbeats 4000000 in
theorem Sync_any {w : World} {p : Nat} {s : DSt} {R : Nat → Prop} {mf mn ms : Nat} {fb : List Nat} {vs vw : Value} {ss : List Value} {ws : List (List Value)} {e : TypeId} (h : DiskP w p s R mf mn ms fb vs vw ss ws e)
    {k : List UInt8} (hk : k.length ≤ maxLen) {N : Nat} (hok : s.Ok N) (hN : N + 1 < maxList) :
    Calls Tryz.prog 225 #[.pointer (some ⟨p, 0, none⟩), .string ⟨k.toArray⟩] w fun e w' => e = .returned (.int .i64 ((s.sync k).2 : Int)) ∧ Turns w w' p (s.sync k).1 (ownL p mf mn vs vw fb) R := by
  obtain ⟨w3, hw3⟩ : ∃ w3, w.alloc (.cells #[.pointer (some ⟨p, 0, none⟩)] 45) = w3 := ⟨_, rfl⟩
  have hb3 : Below w.heap.size w w3 := by rw [← hw3]; exact below_alloc w _
  have hz3 : w3.heap.size = w.heap.size + 1 := by rw [← hw3]; simp
  have hcd : Boxed w3 w.heap.size 45 (.pointer (some ⟨p, 0, none⟩)) := by rw [← hw3]; exact Boxed.new _ _ _
  have h3 := h.below hb3
  have hd := hok.done
  have hmx : maxList = 4194304 := rfl
  have hplt := heap_lt h.cells
  have hc4 : Chg (· ∈ ownL p mf mn vs vw fb) w (w3.setCell ⟨p, 6, none⟩ (.int .i64 ((s.done + 1 : Nat) : Int))) := (Chg.of_below hb3).trans (Chg.set _ mem_own_p) (fun _ h _ => h)
  have hcs : Chg (· = p) w3 (w3.setCell ⟨p, 6, none⟩ (.int .i64 ((s.done + 1 : Nat) : Int))) := Chg.set _ rfl
  have hcd1 := hcd.cell
  cases hf : nlFind s.names k with
  | none =>
    have he : s.sync k = (s.tick, 7) := by unfold DSt.sync; rw [hf]
    rw [he]
    have hst := fun f => step_none h3 hk hf (by omega) f
    have hT := h3.tick.turnsSince hc4 h.hR
    clear he
    have HZ := Lib.hid hz3; clear hz3
    go_enter Tryz.func225, Tryz.ntmps225
    go_wp2_with fail
    refine (hst _).mono ?_
    rintro _ w4 ⟨rfl, rfl⟩
    go_wp2
    go_ret
    exact ⟨rfl, hT⟩
  | some n =>
    rw [sync_some hf]
    have hne0 : ¬ w.heap.size = p := by omega
    have hw1 := sync1_any h3.tick hc4 h.hR hok.ticked hN (n := n) (k := k) hf (hcs.cell hcd.cell hne0) (fun hm => by have := h.lt hm; omega)
    have hst := step_some h3 hk hf (by omega) 238 #[.pointer (some ⟨w.heap.size, 0, none⟩)] enters_sync1 (fun v w' => v = 0 ∧ Turns w w' p (s.tick.syncAt n) (ownL p mf mn vs vw fb) R) hw1
    have HZ := Lib.hid hz3; clear hz3
    go_enter Tryz.func225, Tryz.ntmps225
    go_wp2_with fail
    refine hst.mono ?_
    rintro _ w4 ⟨v, rfl, rfl, hT⟩
    go_wp2
    go_ret
    exact ⟨rfl, hT⟩

end Go.Proofs.YtlmdpcaikhdenaaGreat
