/- Texts of this claim, one behind the other: RfC. -/
import Derived.Test.YtlmdpcaikhdenaaGreatSl23
import Derived.Test.YtlmdpcaikhdenaaGreatSl18
import Derived.Deep.RegionHeld3
set_option linter.unusedSimpArgs false
set_option linter.unusedVariables false
/- Disk: Copy. (printed by gen/copy.py) -/
namespace Go.Proofs.YtlmdpcaikhdenaaGreat
open Go.RowKit Go.Maps Go.Shelf

theorem step_one {w : World} {R : Nat → Prop} {v : Value} {x : NStep} (h : StepIn w R v x) : v.oneCell' = true := by
  cases x with
  | create k n => obtain ⟨x, y, e, _⟩ := h; rw [e]; rfl
  | rename f t => exact False.elim h
  | remove k => obtain ⟨x, e, _⟩ := h; rw [e]; rfl
theorem write_one {w : World} {R : Nat → Prop} {c : List Value} {x : Wr} (h : WrIn w R c x) : ∀ u ∈ c, u.oneCell' = true := by
  obtain ⟨f, rfl, hl⟩ := h
  have hf : f.oneCell' = true := by
    unfold LayIn at hl
    split at hl
    · obtain ⟨y, e, _⟩ := hl; rw [e]; rfl
    · obtain ⟨y, z, u, e, _⟩ := hl; rw [e]; rfl
  intro u hu
  simp only [List.mem_cons, List.not_mem_nil, or_false] at hu
  rcases hu with rfl | rfl | rfl | rfl
  · rfl
  · rfl
  · rfl
  · exact hf
theorem cloneF_any {w : World} {v : Value} {n : Nat} {ss : List Value} (h : w.ownsRow 0 118 1 v n ss) (h1 : ∀ u ∈ ss, u.oneCell' = true) (hn : n ≤ 8388608) :
    Calls Tryz.prog 89 #[v] w fun e w' => ∃ v', e = .returned v' ∧ w'.ownsRow w.heap.size 118 1 v' n ss ∧ Below w.heap.size w w' := by
  obtain ⟨i0, hi, hz0, hz1, hz2⟩ := info_parts Tryz.info118
  obtain ⟨a, c, rfl, _, hnil, hat⟩ := ownsRow_at h
  rcases h.2 with ⟨e, hz⟩ | ⟨g, cap, cur, e, _⟩
  · cases e
    have hss : ss = [] := List.eq_nil_of_length_eq_zero (by have := h.1; omega)
    subst hss
    exact (AnyE.slices_Clone_nil Tryz.cloneF 0 0 w).mono fun e w' ⟨k1, k2⟩ => ⟨_, k1, World.ownsRow_nil _ _ _ _, k2 ▸ Below.refl _ _⟩
  · cases e
    exact (AnyE.slices_Clone Tryz.cloneF i0 .nilFunc 1 8 hi hz0 hz1 hz2 rfl (by decide) Tryz.sizeOf118 g 0 n c ss w h.1 (by unfold maxLen; omega) (by omega) (fun j u hu => by obtain ⟨g', e, hc⟩ := hat j u hu; cases e; rw [Nat.zero_add]; exact hc) h1).mono fun e w' ⟨v', k1, k2, _, k4⟩ => ⟨v', k1, k2, k4⟩
theorem cloneW_any {w : World} {v : Value} {n : Nat} {ss : List Value} (h : w.ownsRow 0 125 4 v n ss) (h1 : ∀ u ∈ ss, u.oneCell' = true) (hn : n ≤ 8388608) :
    Calls Tryz.prog 90 #[v] w fun e w' => ∃ v', e = .returned v' ∧ w'.ownsRow w.heap.size 125 4 v' n ss ∧ Below w.heap.size w w' := by
  obtain ⟨i0, hi, hz0, hz1, hz2⟩ := info_parts Tryz.info125
  obtain ⟨a, c, rfl, _, hnil, hat⟩ := ownsRow_at h
  rcases h.2 with ⟨e, hz⟩ | ⟨g, cap, cur, e, _⟩
  · cases e
    have hss : ss = [] := List.eq_nil_of_length_eq_zero (by have := h.1; omega)
    subst hss
    exact (AnyE.slices_Clone_nil Tryz.cloneW 0 0 w).mono fun e w' ⟨k1, k2⟩ => ⟨_, k1, World.ownsRow_nil _ _ _ _, k2 ▸ Below.refl _ _⟩
  · cases e
    exact (AnyE.slices_Clone Tryz.cloneW i0 (.agg #[.int .i64 0, .int .i64 0, .bool false, .nilFunc]) 4 32 hi hz0 hz1 hz2 rfl (by decide) Tryz.sizeOf125 g 0 n c ss w h.1 (by unfold maxLen; omega) (by omega) (fun j u hu => by obtain ⟨g', e, hc⟩ := hat j u hu; cases e; rw [Nat.zero_add]; exact hc) h1).mono fun e w' ⟨v', k1, k2, _, k4⟩ => ⟨v', k1, k2, k4⟩

theorem below_drew2 (w : World) : Below w.heap.size w w.drew := ⟨rfl, rfl, rfl, Nat.le_refl _, fun _ _ => rfl⟩
/-- a file's twin: the same two slices in a block of its own -/
def TwinOf (w wr : World) (fb : List Nat) (f b : Nat) : Prop := ∃ b0 e vd vs, fb[f]? = some b0 ∧ w.heap[b0]? = some (.cells #[vd, vs] e (0, 0)) ∧ wr.heap[b]? = some (.cells #[vd, vs] 121 (0, 0))
theorem TwinOf.chg {w wr wr' : World} {fb : List Nat} {f b : Nat} {O : Nat → Prop} (h : TwinOf w wr fb f b) (hc : Chg O wr wr') (hO : ¬ O b) : TwinOf w wr' fb f b := by
  obtain ⟨b0, e, vd, vs, h1, h2, h3⟩ := h
  exact ⟨b0, e, vd, vs, h1, h2, hc.obj h3 hO⟩

theorem own_nodup {bx m1 m2 A B C D : Nat} {vs' vw' : Value} {fb' : List Nat} (h1 : bx < m1) (h2 : m1 < A) (hfb : ∀ b ∈ fb', A ≤ b ∧ b < B) (hfn : fb'.Nodup) (hm2 : B ≤ m2) (hAB : A ≤ B) (hm2' : m2 < C) (hvs : ∀ b, vs'.ownBlock = some b → C ≤ b ∧ b < D) (hvw : ∀ b, vw'.ownBlock = some b → D ≤ b) (hCD : C ≤ D) : (ownL bx m1 m2 vs' vw' fb').Nodup := by
  have hone : ∀ o : Option Nat, o.toList.Nodup := fun o => by cases o <;> simp
  have mem : ∀ {b : Nat}, b ∈ vs'.ownBlock.toList ++ (vw'.ownBlock.toList ++ fb') → (C ≤ b) ∨ (A ≤ b ∧ b < B) := fun {b} hb => by
    rcases List.mem_append.1 hb with hb | hb
    · exact .inl (hvs b (by simpa using hb)).1
    rcases List.mem_append.1 hb with hb | hb
    · exact .inl (by have := hvw b (by simpa using hb); omega)
    · exact .inr (hfb b hb)
  unfold ownL
  refine List.nodup_cons.2 ⟨fun hb => ?_, List.nodup_cons.2 ⟨fun hb => ?_, List.nodup_cons.2 ⟨fun hb => ?_, List.nodup_append.2 ⟨hone _, List.nodup_append.2 ⟨hone _, hfn, fun x hx y hy e => ?_⟩, fun x hx y hy e => ?_⟩⟩⟩⟩
  · rcases List.mem_cons.1 hb with h | hb
    · omega
    rcases List.mem_cons.1 hb with h | hb
    · omega
    · rcases mem hb with h | h <;> omega
  · rcases List.mem_cons.1 hb with h | hb
    · omega
    · rcases mem hb with h | h <;> omega
  · rcases mem hb with h | h <;> omega
  · have h1 := hvw x (by simpa using hx)
    have h2 := (hfb y hy).2
    omega
  · have h1 := hvs x (by simpa using hx)
    rcases List.mem_append.1 hy with hy | hy
    · have h2 := hvw y (by simpa using hy); omega
    · have h2 := (hfb y hy).2; omega
theorem copy_done {w w' : World} {p : Nat} {s : DSt} {R : Nat → Prop} {mf mn ms : Nat} {fb : List Nat} {vs vw : Value} {ss : List Value} {ws : List (List Value)} {e t : TypeId} (h : DiskP w p s R mf mn ms fb vs vw ss ws e) (hb : Below w.heap.size w w')
    {bx m1 m2 m3 : Nat} {vs' vw' : Value} {fb' : List Nat} (hx : w'.heap[bx]? = some (.cells #[.int .i64 (s.room : Int), .map (some m1), .map (some m2), .map (some m3), vs', vw', .int .i64 (s.done : Int)] t (0, 0)))
    (hm1 : w'.ownsMap Tryz.prog 3 ptrElem m1 fb'.length (filesD fb')) (hm2 : w'.ownsMap Tryz.prog 9 (plainElem Tryz.prog 3) m2 s.names.length (nameD s.names)) (hm3 : w'.ownsMap Tryz.prog 9 (plainElem Tryz.prog 3) m3 s.sure.length (nameD s.sure))
    (hl : fb'.length = fb.length) (htw : ∀ (f : Nat) b, fb'[f]? = some b → TwinOf w w' fb f b) (hs : w'.ownsRow 0 118 1 vs' s.steps.length ss) (hw : w'.ownsRow 0 125 4 vw' s.writes.length ws.flatten)
    (hap : (ownL bx m1 m2 vs' vw' fb').Nodup) (hnew : ∀ b ∈ ownL bx m1 m2 vs' vw' fb', w.heap.size ≤ b ∧ b < w'.heap.size) (hm3n : w.heap.size ≤ m3 ∧ m3 < w'.heap.size ∧ m3 ∉ ownL bx m1 m2 vs' vw' fb') :
    DiskP w' bx s (RNew R w w' (ownL bx m1 m2 vs' vw' fb')) m1 m2 m3 fb' vs' vw' ss ws t := by
  have hc := Chg.of_below (O := fun _ => False) hb
  have hR : ∀ b, R b → RNew R w w' (ownL bx m1 m2 vs' vw' fb') b := fun b hb => .inl hb
  exact {
    cells := hx
    filesM := hm1
    namesM := hm2
    sureM := hm3
    count := hl.trans h.count
    file := fun i b d hb hd => by
      obtain ⟨b0, e0, vd, vs0, k1, k2, k3⟩ := htw i b hb
      obtain ⟨e1, vd1, vs1, k4, k5, k6⟩ := h.file i b0 d k1 hd
      rw [k2] at k4
      simp only [Option.some.injEq, Obj.cells.injEq] at k4
      have e2 : vd = vd1 ∧ vs0 = vs1 := by have := congrArg Array.toList k4.1; simpa using this
      obtain ⟨rfl, rfl⟩ := e2
      exact ⟨_, vd, vs0, k3, k5.kept hc (fun _ _ h => h) hR, k6.kept hc (fun _ _ h => h) hR⟩
    stepsR := hs
    step := fun i v x hv hx => (h.step i v x hv hx).kept hc (fun _ _ h => h) hR
    writesR := hw
    count4 := h.count4
    write := fun i c x hc' hx => (h.write i c x hc' hx).kept hc (fun _ _ h => h) hR
    apart := hap
    own := fun b hb' => ⟨(hnew b hb').2, fun hr => by
      rcases hr with hr | hr
      · have h1 := (hnew b hb').1
        have h2 := h.shared b hr
        omega
      · exact hr.2.2 hb'⟩
    shared := fun b hr => by
      rcases hr with hr | hr
      · have h2 := h.shared b hr
        have := hb.size
        omega
      · exact hr.2.1
    sureR := .inr hm3n }

set_option maxRecDepth 100000 in
set_option maxHeartbeats 8000000 in
theorem Copy_any {w : World} {p : Nat} {s : DSt} {R : Nat → Prop} {mf mn ms : Nat} {fb : List Nat} {vs vw : Value} {ss : List Value} {ws : List (List Value)} {e : TypeId} (h : DiskP w p s R mf mn ms fb vs vw ss ws e) {N : Nat} (hok : s.Ok N) (hN : N < maxList) :
    Calls Tryz.prog 55 #[.pointer (some ⟨p, 0, none⟩)] w fun e' w' => ∃ po own', e' = .returned (.pointer (some ⟨po, 0, none⟩)) ∧ DiskAt w' po s own' (RNew R w w' own') ∧ (∀ b ∈ own', w.heap.size ≤ b) ∧ Below w.heap.size w w' := by
  have hmx : maxList = 4194304 := rfl
  have hmax : maxLen = 9223372036854775807 := rfl
  have hth := there_any h.cells (mn := mn) (by rfl)
  obtain ⟨sa, sc, rfl, _⟩ := ownsRow_at h.stepsR
  obtain ⟨wa, wc, rfl, _⟩ := ownsRow_at h.writesR
  have c0 := cell_of_heap h.cells (i := 0) (v := .int .i64 (s.room : Int)) (by rfl)
  have c1 := cell_of_heap h.cells (i := 1) (v := .map (some mf)) (by rfl)
  have c2 := cell_of_heap h.cells (i := 2) (v := .map (some mn)) (by rfl)
  have c3 := cell_of_heap h.cells (i := 3) (v := .map (some ms)) (by rfl)
  have c4 := cell_of_heap h.cells (i := 4) (v := .slice sa s.steps.length sc) (by rfl)
  have c5 := cell_of_heap h.cells (i := 5) (v := .slice wa s.writes.length wc) (by rfl)
  have c6 := cell_of_heap h.cells (i := 6) (v := .int .i64 (s.done : Int)) (by rfl)
  have hpl := heap_lt h.cells
  obtain ⟨w1, hw1⟩ : ∃ w1, w.alloc (.cells #[.int .i64 (s.room : Int), .map (some mf), .map (some mn), .map (some ms), .slice sa s.steps.length sc, .slice wa s.writes.length wc, .int .i64 (s.done : Int)] 113) = w1 := ⟨_, rfl⟩
  have hb1 : Below w.heap.size w w1 := by rw [← hw1]; exact below_alloc _ _
  have hz1 : w1.heap.size = w.heap.size + 1 := by rw [← hw1]; simp
  have hx1 : w1.heap[w.heap.size]? = some (.cells #[.int .i64 (s.room : Int), .map (some mf), .map (some mn), .map (some ms), .slice sa s.steps.length sc, .slice wa s.writes.length wc, .int .i64 (s.done : Int)] 113 (0, 0)) := by rw [← hw1]; exact World.alloc_heap_new w _
  obtain ⟨w2, hw2⟩ : ∃ w2, w1.alloc (.map #[] 0) = w2 := ⟨_, rfl⟩
  have hb2 : Below w1.heap.size w1 w2 := by rw [← hw2]; exact below_alloc _ _
  have hz2 : w2.heap.size = w1.heap.size + 1 := by rw [← hw2]; simp
  have hp2 : PtrMap w2 w1.heap.size 0 (fun _ => none) := by rw [← hw2]; exact PtrMap.made w1
  have hx2 := (hb2.block _ (heap_lt hx1)).trans hx1
  obtain ⟨w3, hw3⟩ : ∃ w3, w2.setCell ⟨w.heap.size, 1, none⟩ (.map (some w1.heap.size)) = w3 := ⟨_, rfl⟩
  have hc3 : Chg (fun b => b = w.heap.size) w2 w3 := by rw [← hw3]; exact Chg.set _ rfl
  have hx3 : w3.heap[w.heap.size]? = some (.cells #[.int .i64 (s.room : Int), .map (some w1.heap.size), .map (some mn), .map (some ms), .slice sa s.steps.length sc, .slice wa s.writes.length wc, .int .i64 (s.done : Int)] 113 (0, 0)) := by rw [← hw3]; exact heap_set_cells _ hx2
  have z1 := frozen_of_heap (i := 1) hx2
  have q1 := cell_of_heap hx2 (i := 1) (v := .map (some mf)) (by rfl)
  have hz3 : w3.heap.size = w2.heap.size := by rw [← hw3]; simp [World.setCell]
  have hp3 := hp2.of_chg hc3 (by omega)
  have hb03 : Below w.heap.size w w3 := ((Chg.of_below (O := fun b => b = w.heap.size) (hb1.trans (hb2.mono hb1.size))).trans hc3 (fun _ h _ => h)).below (fun k h => by omega)
  have hmk := fun t w => run_makeMap (P := Tryz.prog) t w
  have hD3 := h.below hb03
  have hr3 := (hb03.cell (p := ⟨p, 1, none⟩) hpl).trans c1
  have H1 := Lib.hid (And.intro hz1 (And.intro hz2 hz3))
  clear hz1 hz2 hz3 hb1 hb2 hc3
  go_enter Tryz.func55, Tryz.ntmps55
  go_wp2_with (first
    | rw [hw1]
    | rw [hw2]
    | rw [hw3]
    | (go_at_call 49; refine hth.mono ?_; rintro _ wn ⟨rfl, rfl⟩)
    | (at_range; refine wpList_range_own _ rfl _ 107 rfl 3 122 (int_keyed Tryz.underlying3) Tryz.underlying107 ptrElem mf fb.length (filesD fb) rfl hD3.filesM ?_; intro w4 hrg4 hg4 hs4))
  have hc34 : Chg (fun _ => False) w3 w4 := Chg.of_grown hg4 (fun k e => by cases e)
  have hb04 : Below w.heap.size w w4 := hb03.trans ((hc34.below (fun _ h => h.elim)).mono hb03.size)
  have hx4 := hc34.obj hx3 (fun h => h)
  have hp4 := hp3.of_chg hc34 (fun h => h)
  have hmany := hok.manyFiles
  have HCNT := Lib.hid h.count
  have hfbN : fb.length ≤ N := by rw [HCNT.out]; exact hmany
  have hszD := filesD_size fb
  have HH := Lib.hid h
  obtain ⟨XC, hXC⟩ : ∃ XC, (Obj.cells #[.int .i64 (s.room : Int), .map (some w1.heap.size), .map (some mn), .map (some ms), .slice sa s.steps.length sc, .slice wa s.writes.length wc, .int .i64 (s.done : Int)] 113 (0, 0)) = XC := ⟨_, rfl⟩
  have HXC := Lib.hid hXC
  rw [hXC] at hx4
  clear hXC hx1 hx2 hx3 hp2 hp3 q1 z1 c0 c1 c2 c3 c4 c5 c6 hr3 hD3 hth hw1 hw2 hw3
  go_frame
  go_loopw [] (fun wr => ∃ left cnt k g, wr.ranges Tryz.prog 3 ptrElem mf w3.heap.size fb.length (filesD fb) left cnt ∧ k + cnt ≤ Maps.size (filesD fb) ∧ Below w.heap.size w wr ∧ wr.heap[w.heap.size]? = some XC ∧ PtrMap wr w1.heap.size k g ∧ (∀ f : Nat, (g f).isSome = (decide (f < fb.length) && !left (.int .i64 (f : Int)))) ∧ (∀ f b, g f = some b → TwinOf w wr fb f b ∧ w4.heap.size ≤ b ∧ b < wr.heap.size) ∧ (∀ f f' b, g f = some b → g f' = some b → f = f') ∧ Chg (fun b => b = w1.heap.size ∨ b = w3.heap.size) w4 wr) (fun wr => wr.rangeLeft mf w3.heap.size)
  case atStart =>
    refine ⟨_, _, 0, _, hrg4, by omega, hb04, hx4, hp4, fun f => ?_, fun f b h => (by cases h), fun f f' b h => (by cases h), Chg.refl _ _⟩
    by_cases hf : f < fb.length
    · simp [hf, filesD_has fb f hf]
    · simp [hf]
  case round =>
    obtain ⟨left, cnt, k, g, hrg, hkc, hb, hxr, hpm, hgs, hgt, hgi, hcr⟩ := hrel
    go_wp2_with (at_next; refine wpList_next_ranges _ rfl _ rfl 3 (int_keyed Tryz.underlying3) ptrElem (Value.int .i64) (fun x : Option Nat => Value.pointer (x.map fun b => ⟨b, 0, none⟩)) (fun key kl hkey => by obtain ⟨x, rfl, _⟩ := Maps.keyOf_int_inv Tryz.underlying3 hkey; exact ⟨x, rfl⟩) (fun v y hv => ptrElem_some hv) mf w3.heap.size fb.length (filesD fb) left cnt rfl hrg ?_ ?_)
    · intro hc0 hl0
      have hH := HH.out
      have hDr := hH.below hb
      obtain ⟨hz1, hz2, hz3⟩ := H1.out
      have hz4 := hs4
      have hsr := hcr.size
      have hplr : p < wr.drew.heap.size := Nat.lt_of_lt_of_le hpl hb.size
      have e2 := cell_of_heap hDr.cells (i := 2) (v := .map (some mn)) (by rfl)
      have e3 := cell_of_heap hDr.cells (i := 3) (v := .map (some ms)) (by rfl)
      have hpx : p ≠ w.heap.size := by omega
      have hDd := hDr.below (below_drew2 wr)
      have hcn := cloneN_any hDd.namesM
      have hcs := fun W (hW : Below wr.drew.heap.size wr.drew W) => cloneN_any (hDd.below hW).sureM
      go_upto_region 10 with fail
      refine wp_region_held_drew (S := fun w' => w'.cell? ⟨p, 2, none⟩ = some (.map (some mn)) ∧ w'.cell? ⟨p, 3, none⟩ = some (.map (some ms))) (by kernel_rfl) (⟨e2, e3⟩) (fun hHeld => ?_)
      refine wpAnyH_take (i := 0) (v := ?_) rfl (by kernel_rfl) (by kernel_rfl) (by kernel_rfl) (fun _ _ _ h => h) (Or.inl ⟨by rfl, ?_⟩) hHeld ?_
      rotate_left
      · intro w hSw; (try dsimp only at hSw); go_simp
        all_goals (with_reducible rfl)
      (try simp only [Act.put, List.setIfInBounds_toArray, List.set_cons_zero, List.set_cons_succ])
      refine wpAnyH_take (i := 1) (v := ?_) rfl (by kernel_rfl) (by kernel_rfl) (by kernel_rfl) (fun _ _ _ h => h) (Or.inl ⟨by rfl, ?_⟩) hHeld ?_
      rotate_left
      · intro w hSw; (try dsimp only at hSw); go_simp
        all_goals (with_reducible rfl)
      (try simp only [Act.put, List.setIfInBounds_toArray, List.set_cons_zero, List.set_cons_succ])
      refine wpAnyH_take (i := 2) (v := ?_) rfl (by kernel_rfl) (by kernel_rfl) (by kernel_rfl) (fun _ _ _ h => h) (Or.inl ⟨by rfl, ?_⟩) hHeld ?_
      rotate_left
      · intro w hSw; (try dsimp only at hSw); go_simp
        all_goals (with_reducible rfl)
      (try simp only [Act.put, List.setIfInBounds_toArray, List.set_cons_zero, List.set_cons_succ])
      refine wpAnyH_take (i := 3) (v := ?_) rfl (by kernel_rfl) (by kernel_rfl) (by kernel_rfl) (fun _ _ _ h => h) (Or.inl ⟨by rfl, ?_⟩) hHeld ?_
      rotate_left
      · intro w hSw; (try dsimp only at hSw); go_simp
        all_goals (with_reducible rfl)
      (try simp only [Act.put, List.setIfInBounds_toArray, List.set_cons_zero, List.set_cons_succ])
      refine wpAnyH_take (i := 5) (v := ?_) rfl (by kernel_rfl) (by kernel_rfl) (by kernel_rfl) (fun _ _ _ h => h) (Or.inl ⟨by rfl, ?_⟩) hHeld ?_
      rotate_left
      · intro w hSw; (try dsimp only at hSw); go_simp
        all_goals (with_reducible rfl)
      (try simp only [Act.put, List.setIfInBounds_toArray, List.set_cons_zero, List.set_cons_succ])
      refine wpAnyH_take (i := 6) (v := ?_) rfl (by kernel_rfl) (by kernel_rfl) (by kernel_rfl) (fun _ _ _ h => h) (Or.inl ⟨by rfl, ?_⟩) hHeld ?_
      rotate_left
      · intro w hSw; (try dsimp only at hSw); go_simp
        all_goals (with_reducible rfl)
      (try simp only [Act.put, List.setIfInBounds_toArray, List.set_cons_zero, List.set_cons_succ])
      refine wpAnyH_take (i := 7) (v := ?_) rfl (by kernel_rfl) (by kernel_rfl) (by kernel_rfl) (fun _ _ _ h => h) (Or.inl ⟨by rfl, ?_⟩) hHeld ?_
      rotate_left
      · intro w hSw; (try dsimp only at hSw); go_simp
        all_goals (with_reducible rfl)
      (try simp only [Act.put, List.setIfInBounds_toArray, List.set_cons_zero, List.set_cons_succ])
      refine wpAnyH_take (i := 8) (v := ?_) rfl (by kernel_rfl) (by kernel_rfl) (by kernel_rfl) (fun _ _ _ h => h) (Or.inl ⟨by rfl, ?_⟩) hHeld ?_
      rotate_left
      · intro w hSw; (try dsimp only at hSw); go_simp
        all_goals (with_reducible rfl)
      (try simp only [Act.put, List.setIfInBounds_toArray, List.set_cons_zero, List.set_cons_succ])
      refine wpAnyH_ready (rs := [4]) (by kernel_rfl) (by simp) ?_
      refine AllReadyH.cons rfl (fun K hK => ?_) AllReadyH.nil
      go_simp
      go_wp2_with (first | (go_at_call 50; refine hcn.mono ?_; rintro _ w5 ⟨rfl, hm2, hb5⟩))
      have k2 := (hb5.cell (p := ⟨p, 2, none⟩) hplr).trans e2
      have k3 := (hb5.cell (p := ⟨p, 3, none⟩) hplr).trans e3
      have hcs5 := hcs w5 hb5
      have hpl5 : p < w5.heap.size := Nat.lt_of_lt_of_le hplr hb5.size
      
      refine hK.out _ _ (⟨k2, k3⟩) (fun hHeld => ?_)
      clear hK K
      (try simp only [Act.put, List.setIfInBounds_toArray, List.set_cons_zero, List.set_cons_succ])
      refine wpAnyH_ready (rs := [9]) (by kernel_rfl) (by simp) ?_
      refine AllReadyH.cons rfl (fun K hK => ?_) AllReadyH.nil
      go_simp
      go_wp2_with (first | (go_at_call 50; refine hcs5.mono ?_; rintro _ w6 ⟨rfl, hm3, hb6⟩))
      have n2 := (hb6.cell (p := ⟨p, 2, none⟩) hpl5).trans k2
      have n3 := (hb6.cell (p := ⟨p, 3, none⟩) hpl5).trans k3
      have hxr5 : w5.heap[w.heap.size]? = some XC := (hb5.block _ (show w.heap.size < wr.drew.heap.size from Nat.lt_of_lt_of_le (heap_lt hxr) (Nat.le_refl _))).trans hxr
      have hxr6 := (hb6.block _ (heap_lt hxr5)).trans hxr5
      rw [← HXC.out] at hxr6
      have x2 := cell_of_heap hxr6 (i := 2) (v := .map (some mn)) (by rfl)
      have y2 := frozen_of_heap (i := 2) hxr6
      
      refine hK.out _ _ (⟨n2, n3⟩) (fun hHeld => ?_)
      clear hK K
      (try simp only [Act.put, List.setIfInBounds_toArray, List.set_cons_zero, List.set_cons_succ])
      refine wpAnyH_take (i := 10) (v := ?_) rfl (by kernel_rfl) (by kernel_rfl) (by kernel_rfl) (fun _ _ _ h => h) (Or.inl ⟨by rfl, ?_⟩) hHeld ?_
      rotate_left
      · intro w hSw; (try dsimp only at hSw); go_simp
        all_goals (with_reducible rfl)
      (try simp only [Act.put, List.setIfInBounds_toArray, List.set_cons_zero, List.set_cons_succ])
      refine wpAnyH_ready (rs := [11]) (by kernel_rfl) (by simp) ?_
      refine AllReadyH.cons rfl (fun K hK => ?_) AllReadyH.nil
      go_simp
      obtain ⟨w7, hw7⟩ : ∃ w7, w6.setCell ⟨w.heap.size, 2, none⟩ (.map (some wr.heap.size)) = w7 := ⟨_, rfl⟩
      rw [hw7]
      have hc7 : Chg (fun b => b = w.heap.size) w6 w7 := by rw [← hw7]; exact Chg.set _ rfl
      have hx7 := heap_set_cells (p := w.heap.size) (i := 2) (.map (some wr.heap.size)) hxr6
      rw [hw7] at hx7
      have m2 := hc7.cell n2 hpx
      have m3 := hc7.cell n3 hpx
      have x3 := cell_of_heap hx7 (i := 3) (v := .map (some ms)) (by rfl)
      have y3 := frozen_of_heap (i := 3) hx7
      
      refine hK.out _ _ (⟨m2, m3⟩) (fun hHeld => ?_)
      clear hK K
      (try simp only [Act.put, List.setIfInBounds_toArray, List.set_cons_zero, List.set_cons_succ])
      refine wpAnyH_take (i := 12) (v := ?_) rfl (by kernel_rfl) (by kernel_rfl) (by kernel_rfl) (fun _ _ _ h => h) (Or.inl ⟨by rfl, ?_⟩) hHeld ?_
      rotate_left
      · intro w hSw; (try dsimp only at hSw); go_simp
        all_goals (with_reducible rfl)
      (try simp only [Act.put, List.setIfInBounds_toArray, List.set_cons_zero, List.set_cons_succ])
      refine wpAnyH_ready (rs := [13]) (by kernel_rfl) (by simp) ?_
      refine AllReadyH.cons rfl (fun K hK => ?_) AllReadyH.nil
      go_simp
      obtain ⟨w8, hw8⟩ : ∃ w8, w7.setCell ⟨w.heap.size, 3, none⟩ (.map (some w5.heap.size)) = w8 := ⟨_, rfl⟩
      rw [hw8]
      have hc8 : Chg (fun b => b = w.heap.size) w7 w8 := by rw [← hw8]; exact Chg.set _ rfl
      have hx8 := heap_set_cells (p := w.heap.size) (i := 3) (.map (some w5.heap.size)) hx7
      rw [hw8] at hx8
      have o2 := hc8.cell m2 hpx
      have o3 := hc8.cell m3 hpx
      
      refine hK.out _ _ (⟨o2, o3⟩) (fun hHeld => ?_)
      clear hK K
      (try simp only [Act.put, List.setIfInBounds_toArray, List.set_cons_zero, List.set_cons_succ])
      refine wpAnyH_done (by kernel_rfl) ?_ _
      clear hHeld
      have hbd5 : Below wr.heap.size wr w5 := (below_drew2 wr).trans hb5
      have hcr6 : Chg (fun b => b = w.heap.size) wr w6 := Chg.of_below (hbd5.trans (hb6.mono hbd5.size))
      have hcr8 : Chg (fun b => b = w.heap.size) wr w8 := (hcr6.trans hc7 (fun _ h _ => h)).trans hc8 (fun _ h _ => h)
      have hB8 : Below w.heap.size w w8 := ((Chg.of_below (O := fun b => b = w.heap.size) hb).trans hcr8 (fun _ h _ => h)).below (fun k h => by omega)
      have hD8 := hH.below hB8
      have hD8d := hD8.below (below_drew2 w8)
      have e4 := cell_of_heap hD8.cells (i := 4) (v := .slice sa s.steps.length sc) (by rfl)
      have e5 := cell_of_heap hD8.cells (i := 5) (v := .slice wa s.writes.length wc) (by rfl)
      have hone1 : ∀ u ∈ ss, u.oneCell' = true := fun u hu => by
        obtain ⟨i, hi, rfl⟩ := List.getElem_of_mem hu
        have hlen : ss.length = s.steps.length := by have := hH.stepsR.1; omega
        exact step_one (hH.step i ss[i] (s.steps[i]'(by omega)) (by simp) (by simp))
      have hone2 : ∀ u ∈ ws.flatten, u.oneCell' = true := fun u hu => by
        obtain ⟨c, hc, huc⟩ := List.mem_flatten.1 hu
        obtain ⟨i, hi, rfl⟩ := List.getElem_of_mem hc
        exact write_one (hH.write i ws[i] (s.writes[i]'(by rw [← hH.count4]; exact hi)) (by simp) (by simp)) u huc
      have hmst := hok.manySteps
      have hmwr := hok.manyWrites
      have hcf := cloneF_any hD8d.stepsR hone1 (by omega)
      have hcw := fun W (hW : Below w8.drew.heap.size w8.drew W) => cloneW_any (hD8d.below hW).writesR hone2 (by omega)
      have hpl8 : p < w8.drew.heap.size := Nat.lt_of_lt_of_le hpl hB8.size
      go_upto_region 11 with fail
      refine wp_region_held_drew (S := fun w' => w'.cell? ⟨p, 4, none⟩ = some (.slice sa s.steps.length sc) ∧ w'.cell? ⟨p, 5, none⟩ = some (.slice wa s.writes.length wc)) (by kernel_rfl) (⟨e4, e5⟩) (fun hHeld => ?_)
      refine wpAnyH_take (i := 0) (v := ?_) rfl (by kernel_rfl) (by kernel_rfl) (by kernel_rfl) (fun _ _ _ h => h) (Or.inl ⟨by rfl, ?_⟩) hHeld ?_
      rotate_left
      · intro w hSw; (try dsimp only at hSw); go_simp
        all_goals (with_reducible rfl)
      (try simp only [Act.put, List.setIfInBounds_toArray, List.set_cons_zero, List.set_cons_succ])
      refine wpAnyH_take (i := 1) (v := ?_) rfl (by kernel_rfl) (by kernel_rfl) (by kernel_rfl) (fun _ _ _ h => h) (Or.inl ⟨by rfl, ?_⟩) hHeld ?_
      rotate_left
      · intro w hSw; (try dsimp only at hSw); go_simp
        all_goals (with_reducible rfl)
      (try simp only [Act.put, List.setIfInBounds_toArray, List.set_cons_zero, List.set_cons_succ])
      refine wpAnyH_take (i := 2) (v := ?_) rfl (by kernel_rfl) (by kernel_rfl) (by kernel_rfl) (fun _ _ _ h => h) (Or.inl ⟨by rfl, ?_⟩) hHeld ?_
      rotate_left
      · intro w hSw; (try dsimp only at hSw); go_simp
        all_goals (with_reducible rfl)
      (try simp only [Act.put, List.setIfInBounds_toArray, List.set_cons_zero, List.set_cons_succ])
      refine wpAnyH_take (i := 3) (v := ?_) rfl (by kernel_rfl) (by kernel_rfl) (by kernel_rfl) (fun _ _ _ h => h) (Or.inl ⟨by rfl, ?_⟩) hHeld ?_
      rotate_left
      · intro w hSw; (try dsimp only at hSw); go_simp
        all_goals (with_reducible rfl)
      (try simp only [Act.put, List.setIfInBounds_toArray, List.set_cons_zero, List.set_cons_succ])
      refine wpAnyH_take (i := 5) (v := ?_) rfl (by kernel_rfl) (by kernel_rfl) (by kernel_rfl) (fun _ _ _ h => h) (Or.inl ⟨by rfl, ?_⟩) hHeld ?_
      rotate_left
      · intro w hSw; (try dsimp only at hSw); go_simp
        all_goals (with_reducible rfl)
      (try simp only [Act.put, List.setIfInBounds_toArray, List.set_cons_zero, List.set_cons_succ])
      refine wpAnyH_take (i := 6) (v := ?_) rfl (by kernel_rfl) (by kernel_rfl) (by kernel_rfl) (fun _ _ _ h => h) (Or.inl ⟨by rfl, ?_⟩) hHeld ?_
      rotate_left
      · intro w hSw; (try dsimp only at hSw); go_simp
        all_goals (with_reducible rfl)
      (try simp only [Act.put, List.setIfInBounds_toArray, List.set_cons_zero, List.set_cons_succ])
      refine wpAnyH_take (i := 7) (v := ?_) rfl (by kernel_rfl) (by kernel_rfl) (by kernel_rfl) (fun _ _ _ h => h) (Or.inl ⟨by rfl, ?_⟩) hHeld ?_
      rotate_left
      · intro w hSw; (try dsimp only at hSw); go_simp
        all_goals (with_reducible rfl)
      (try simp only [Act.put, List.setIfInBounds_toArray, List.set_cons_zero, List.set_cons_succ])
      refine wpAnyH_take (i := 8) (v := ?_) rfl (by kernel_rfl) (by kernel_rfl) (by kernel_rfl) (fun _ _ _ h => h) (Or.inl ⟨by rfl, ?_⟩) hHeld ?_
      rotate_left
      · intro w hSw; (try dsimp only at hSw); go_simp
        all_goals (with_reducible rfl)
      (try simp only [Act.put, List.setIfInBounds_toArray, List.set_cons_zero, List.set_cons_succ])
      refine wpAnyH_ready (rs := [4]) (by kernel_rfl) (by simp) ?_
      refine AllReadyH.cons rfl (fun K hK => ?_) AllReadyH.nil
      go_simp
      go_wp2_with (first | (go_at_call 89; refine hcf.mono ?_; rintro _ w9 ⟨vs', rfl, hs9, hb9⟩; obtain ⟨sa', sc', rfl, _⟩ := ownsRow_at hs9))
      have p4 := (hb9.cell (p := ⟨p, 4, none⟩) hpl8).trans e4
      have p5 := (hb9.cell (p := ⟨p, 5, none⟩) hpl8).trans e5
      have hcw9 := hcw w9 hb9
      have hpl9 : p < w9.heap.size := Nat.lt_of_lt_of_le hpl8 hb9.size
      
      refine hK.out _ _ (⟨p4, p5⟩) (fun hHeld => ?_)
      clear hK K
      (try simp only [Act.put, List.setIfInBounds_toArray, List.set_cons_zero, List.set_cons_succ])
      refine wpAnyH_ready (rs := [9]) (by kernel_rfl) (by simp) ?_
      refine AllReadyH.cons rfl (fun K hK => ?_) AllReadyH.nil
      go_simp
      go_wp2_with (first | (go_at_call 90; refine hcw9.mono ?_; rintro _ w10 ⟨vw', rfl, hw10, hb10⟩; obtain ⟨wa', wc', rfl, _⟩ := ownsRow_at hw10))
      have r4 := (hb10.cell (p := ⟨p, 4, none⟩) hpl9).trans p4
      have r5 := (hb10.cell (p := ⟨p, 5, none⟩) hpl9).trans p5
      have hx9 := (hb9.block _ (show w.heap.size < w8.drew.heap.size from heap_lt hx8)).trans hx8
      have hx10 := (hb10.block _ (heap_lt hx9)).trans hx9
      have x4 := cell_of_heap hx10 (i := 4) (v := .slice sa s.steps.length sc) (by rfl)
      have y4 := frozen_of_heap (i := 4) hx10
      
      refine hK.out _ _ (⟨r4, r5⟩) (fun hHeld => ?_)
      clear hK K
      (try simp only [Act.put, List.setIfInBounds_toArray, List.set_cons_zero, List.set_cons_succ])
      refine wpAnyH_take (i := 10) (v := ?_) rfl (by kernel_rfl) (by kernel_rfl) (by kernel_rfl) (fun _ _ _ h => h) (Or.inl ⟨by rfl, ?_⟩) hHeld ?_
      rotate_left
      · intro w hSw; (try dsimp only at hSw); go_simp
        all_goals (with_reducible rfl)
      (try simp only [Act.put, List.setIfInBounds_toArray, List.set_cons_zero, List.set_cons_succ])
      refine wpAnyH_ready (rs := [11]) (by kernel_rfl) (by simp) ?_
      refine AllReadyH.cons rfl (fun K hK => ?_) AllReadyH.nil
      go_simp
      obtain ⟨w11, hw11⟩ : ∃ w11, w10.setCell ⟨w.heap.size, 4, none⟩ (.slice sa' s.steps.length sc') = w11 := ⟨_, rfl⟩
      rw [hw11]
      have hc11 : Chg (fun b => b = w.heap.size) w10 w11 := by rw [← hw11]; exact Chg.set _ rfl
      have hx11 := heap_set_cells (p := w.heap.size) (i := 4) (.slice sa' s.steps.length sc') hx10
      rw [hw11] at hx11
      have s4 := hc11.cell r4 hpx
      have s5 := hc11.cell r5 hpx
      have x5 := cell_of_heap hx11 (i := 5) (v := .slice wa s.writes.length wc) (by rfl)
      have y5 := frozen_of_heap (i := 5) hx11
      
      refine hK.out _ _ (⟨s4, s5⟩) (fun hHeld => ?_)
      clear hK K
      (try simp only [Act.put, List.setIfInBounds_toArray, List.set_cons_zero, List.set_cons_succ])
      refine wpAnyH_take (i := 12) (v := ?_) rfl (by kernel_rfl) (by kernel_rfl) (by kernel_rfl) (fun _ _ _ h => h) (Or.inl ⟨by rfl, ?_⟩) hHeld ?_
      rotate_left
      · intro w hSw; (try dsimp only at hSw); go_simp
        all_goals (with_reducible rfl)
      (try simp only [Act.put, List.setIfInBounds_toArray, List.set_cons_zero, List.set_cons_succ])
      refine wpAnyH_ready (rs := [13]) (by kernel_rfl) (by simp) ?_
      refine AllReadyH.cons rfl (fun K hK => ?_) AllReadyH.nil
      go_simp
      obtain ⟨w12, hw12⟩ : ∃ w12, w11.setCell ⟨w.heap.size, 5, none⟩ (.slice wa' s.writes.length wc') = w12 := ⟨_, rfl⟩
      rw [hw12]
      have hc12 : Chg (fun b => b = w.heap.size) w11 w12 := by rw [← hw12]; exact Chg.set _ rfl
      have hx12 := heap_set_cells (p := w.heap.size) (i := 5) (.slice wa' s.writes.length wc') hx11
      rw [hw12] at hx12
      have t4 := hc12.cell s4 hpx
      have t5 := hc12.cell s5 hpx
      
      refine hK.out _ _ (⟨t4, t5⟩) (fun hHeld => ?_)
      clear hK K
      (try simp only [Act.put, List.setIfInBounds_toArray, List.set_cons_zero, List.set_cons_succ])
      refine wpAnyH_done (by kernel_rfl) ?_ _
      clear hHeld
      have C10 : Chg (fun b => b = w.heap.size) w10 w12 := hc11.trans hc12 (fun _ h _ => h)
      have C9 : Chg (fun b => b = w.heap.size) w9 w12 := (Chg.of_below (O := fun b => b = w.heap.size) hb10).trans C10 (fun _ h _ => h)
      have C8 : Chg (fun b => b = w.heap.size) w8 w12 := (Chg.of_below (O := fun b => b = w.heap.size) ((below_drew2 w8).trans hb9)).trans C9 (fun _ h _ => h)
      have C6 : Chg (fun b => b = w.heap.size) w6 w12 := (hc7.trans hc8 (fun _ h _ => h)).trans C8 (fun _ h _ => h)
      have C5 : Chg (fun b => b = w.heap.size) w5 w12 := (Chg.of_below (O := fun b => b = w.heap.size) hb6).trans C6 (fun _ h _ => h)
      have Cr : Chg (fun b => b = w.heap.size) wr w12 := hcr8.trans C8 (fun _ h _ => h)
      have hB12 : Below w.heap.size w w12 := ((Chg.of_below (O := fun b => b = w.heap.size) hB8).trans C8 (fun _ h _ => h)).below (fun k h => by omega)
      have q5 : wr.heap.size < w5.heap.size := hm2.lt
      have q6 : w5.heap.size < w6.heap.size := hm3.lt
      have q68 : w6.heap.size ≤ w8.heap.size := Nat.le_trans hc7.size hc8.size
      have q89 : w8.heap.size ≤ w9.heap.size := hb9.size
      have q9 : w9.heap.size ≤ w10.heap.size := hb10.size
      have q10 := C10.size
      have hlD : ∀ f : Nat, (g f).isSome = decide (f < fb.length) := fun f => by rw [hgs f, hl0]; simp
      obtain ⟨fb', hfb'⟩ : ∃ fb', (List.range fb.length).map (fun f => (g f).getD 0) = fb' := ⟨_, rfl⟩
      have hfl : fb'.length = fb.length := by rw [← hfb']; simp
      have hgf : ∀ f, g f = fb'[f]? := fun f => by
        rw [← hfb', List.getElem?_map]
        by_cases hf : f < fb.length
        · have h1 := hlD f
          rw [decide_eq_true hf] at h1
          obtain ⟨b, hb⟩ := Option.isSome_iff_exists.1 h1
          simp [hf, hb]
        · have h1 := hlD f
          rw [decide_eq_false hf] at h1
          have h2 : g f = none := by cases h3 : g f with
            | none => rfl
            | some b => rw [h3] at h1; cases h1
          simp [hf, h2]
      have hfin : ∀ b ∈ fb', w4.heap.size ≤ b ∧ b < wr.heap.size := fun b hb => by
        obtain ⟨i, hi, rfl⟩ := List.getElem_of_mem hb
        exact (hgt i fb'[i] (by rw [hgf]; simp)).2
      have hfn : fb'.Nodup := by
        refine List.pairwise_iff_getElem.2 fun i j hi hj hij e => ?_
        have := hgi i j fb'[i] (by rw [hgf]; simp) (by rw [hgf, e]; simp)
        omega
      have hapart := own_nodup (bx := w.heap.size) (m1 := w1.heap.size) (m2 := wr.drew.heap.size) (A := w4.heap.size) (B := wr.heap.size) (C := w8.heap.size) (D := w9.heap.size) (vs' := .slice sa' s.steps.length sc') (vw' := .slice wa' s.writes.length wc') (by omega) (by omega) hfin hfn (Nat.le_refl _) hsr (by show wr.heap.size < _; omega) (fun b hb => hs9.lt b hb) (fun b hb => (hw10.lt b hb).1) q89
      have hmem : ∀ b ∈ ownL w.heap.size w1.heap.size wr.drew.heap.size (.slice sa' s.steps.length sc') (.slice wa' s.writes.length wc') fb', (w.heap.size ≤ b ∧ b < w12.heap.size) ∧ b ≠ w5.heap.size := fun b hb => by
        unfold ownL at hb
        rcases List.mem_cons.1 hb with h | hb
        · omega
        rcases List.mem_cons.1 hb with h | hb
        · omega
        rcases List.mem_cons.1 hb with h | hb
        · have h : b = wr.heap.size := h
          omega
        rcases List.mem_append.1 hb with hb | hb
        · have h1 := hs9.lt b (by simpa using hb)
          have h2 : w8.heap.size ≤ b := h1.1
          omega
        rcases List.mem_append.1 hb with hb | hb
        · have h1 := hw10.lt b (by simpa using hb)
          omega
        · have := hfin b hb
          omega
      have hfm := (hpm.of_chg Cr (by omega)).files hfl (hH.filesM.canon (int_keyed Tryz.underlying3)) hgf
      have hDone := copy_done hH hB12 hx12 (hfm.mono (by rw [hszD] at hkc; omega)) (C5.map hm2 (by show ¬ wr.heap.size = w.heap.size; omega)) (C6.map hm3 (by omega)) hfl (fun f b hb => (hgt f b (by rw [hgf]; exact hb)).1.chg Cr (by have := (hgt f b (by rw [hgf]; exact hb)).2.1; omega))
        (C9.row (ownsRow_base_le hs9 (Nat.zero_le _)) (fun b hb => by have h1 := (hs9.lt b hb).1; have h2 : w8.heap.size ≤ b := h1; omega)) (C10.row (ownsRow_base_le hw10 (Nat.zero_le _)) (fun b hb => by have := (hw10.lt b hb).1; omega)) hapart (fun b hb => (hmem b hb).1) ⟨by omega, by omega, fun hm => (hmem _ hm).2 rfl⟩
      have HD := Lib.hid (And.intro hDone (And.intro hB12 (fun b hb => (hmem b hb).1.1 : ∀ b ∈ ownL w.heap.size w1.heap.size wr.drew.heap.size (.slice sa' s.steps.length sc') (.slice wa' s.writes.length wc') fb', w.heap.size ≤ b)))
      clear hDone hmem hapart hfm hx12 hx11 hx10 hx9 hx8 hs9 hw10
      go_wp2
      go_ret
      exact ⟨_, _, rfl, ⟨_, _, _, _, _, _, _, _, _, HD.out.1, rfl⟩, HD.out.2.2, HD.out.2.1⟩
    · intro x c kl y1 y2 w5 cnt1 hkey hlk hv hat hrg1 hlt hg1 hs1 hen
      obtain ⟨x', ex, hkl, _⟩ := Maps.keyOf_int_inv Tryz.underlying3 hkey
      cases ex
      subst hkl
      obtain ⟨f, hf, hxf⟩ := filesD_keys fb (has_true_of_atKey hat)
      obtain rfl : x = (f : Int) := by simpa using hxf
      have hat0 := hat .nil
      rw [filesD_at fb f hf] at hat0
      subst hat0
      have hce := ptrElem_inv hv
      obtain rfl : c = some fb[f] := by
        cases c with
        | none => simp at hce
        | some b => simpa using hce
      simp only [Option.map_some] at hen ⊢
      have hH := HH.out
      have hfF : f < s.files.length := by rw [← HCNT.out]; exact hf
      obtain ⟨e', vd, vs', hfh, hvd, hvs⟩ := hH.file f fb[f] s.files[f] (by simp [hf]) (by simp [hfF])
      obtain ⟨da, dc, rfl, _⟩ := hvd.row
      obtain ⟨sa', sc', rfl, _⟩ := hvs.row
      have hfl : fb[f] < w.heap.size := heap_lt hfh
      obtain ⟨hz1, hz2, hz3⟩ := H1.out
      have hz4 := hs4
      have hc1 : Chg (fun b => b = w3.heap.size) wr w5 := Chg.of_grown hg1 (fun k e _ => by cases e; rfl)
      have hb5 : Below w.heap.size w w5 := hb.trans ⟨hc1.os, hc1.tape, hc1.output, hc1.size, fun j hj => hc1.block j (by have := hb.size; omega) (by omega)⟩
      have hfh5 := (hb5.block _ hfl).trans hfh
      have d0 := cell_of_heap hfh5 (i := 0) (by rfl)
      have d1 := cell_of_heap hfh5 (i := 1) (by rfl)
      have hsb := hb5.size
      have hsr := hcr.size
      obtain ⟨w6, hw6⟩ : ∃ w6, w5.alloc (.cells #[.slice da s.files[f].1.length dc, .slice sa' s.files[f].2.length sc'] 121) = w6 := ⟨_, rfl⟩
      have hb56 : Below w5.heap.size w5 w6 := by rw [← hw6]; exact below_alloc _ _
      have hz6 : w6.heap.size = w5.heap.size + 1 := by rw [← hw6]; simp
      have htw : w6.heap[w5.heap.size]? = some (.cells #[.slice da s.files[f].1.length dc, .slice sa' s.files[f].2.length sc'] 121 (0, 0)) := by rw [← hw6]; exact World.alloc_heap_new w5 _
      have hx6 : w6.heap[w.heap.size]? = some XC := (hb56.block _ (by omega)).trans (hc1.obj hxr (by omega))
      rw [← HXC.out] at hx6
      have q6 := cell_of_heap hx6 (i := 1) (v := .map (some w1.heap.size)) (by rfl)
      have hpm6 := (hpm.of_chg hc1 (by omega)).of_chg (Chg.of_below (O := fun _ => False) hb56) (fun h => h)
      obtain ⟨w7, hst, hpm7, hc7⟩ := hpm6.store (by rw [hszD] at hkc; omega) (f := f) (b := w5.heap.size) (by omega)
      have hx7 := hc7.obj hx6 (by omega)
      rw [HXC.out] at hx7
      have hrg7 := hc7.ranges ((Chg.of_below (O := fun _ => False) hb56).ranges hrg1 (fun h => h) (fun h => h)) (by have := hH.own mf mem_own_mf; omega) (by omega)
      have hleq := hrg7.left_eq
      have hleq0 := hrg.left_eq
      have hc47 : Chg (fun b => b = w1.heap.size ∨ b = w3.heap.size) w4 w7 := ((hcr.trans hc1 (fun b hb _ => .inr hb)).trans (Chg.of_below (O := fun _ => False) hb56) (fun _ h _ => h.elim)).trans hc7 (fun b hb _ => .inl hb)
      have hc57 : Chg (fun b => b = w1.heap.size) w5 w7 := (Chg.of_below (O := fun b => b = w1.heap.size) hb56).trans hc7 (fun _ h _ => h)
      have hb7 : Below w.heap.size w w7 := hb5.trans ⟨hc57.os, hc57.tape, hc57.output, hc57.size, fun j hj => hc57.block j (by omega) (by omega)⟩
      have hz57 := hc57.size
      have hz67 := hc7.size
      have hr1 : ∀ z : Nat, ((fun x => if x = f then some w5.heap.size else g x) z).isSome = (decide (z < fb.length) && !(left (.int .i64 (z : Int)) && !(Lit.int .i64 (z : Int)).sameKey (.int .i64 (f : Int)))) := fun z => by
        by_cases hzf : z = f
        · subst hzf
          simp [hf, Lit.sameKey]
        · have hk : (Lit.int .i64 (z : Int)).sameKey (.int .i64 (f : Int)) = false := by simp [Lit.sameKey]; omega
          simp only [hzf, if_false, hgs, hk, Bool.not_false, Bool.and_true]
      have hr2 : ∀ z b, (fun x => if x = f then some w5.heap.size else g x) z = some b → TwinOf w w7 fb z b ∧ w4.heap.size ≤ b ∧ b < w7.heap.size := fun z b hzb => by
        by_cases hzf : z = f
        · subst hzf
          simp only [if_true, Option.some.injEq] at hzb
          subst hzb
          exact ⟨⟨fb[z], e', _, _, by simp [hf], hfh, hc7.obj htw (by omega)⟩, by omega, by omega⟩
        · simp only [hzf, if_false] at hzb
          obtain ⟨k1, k2, k3⟩ := hgt z b hzb
          exact ⟨(k1.chg hc1 (by omega)).chg hc57 (by omega), k2, by omega⟩
      have hr3 : ∀ z z' b, (fun x => if x = f then some w5.heap.size else g x) z = some b → (fun x => if x = f then some w5.heap.size else g x) z' = some b → z = z' := fun z z' b h1 h2 => by
        by_cases hz : z = f <;> by_cases hz' : z' = f
        · omega
        · simp only [hz, hz', if_true, if_false, Option.some.injEq] at h1 h2
          have := (hgt z' b h2).2.2; omega
        · simp only [hz, hz', if_true, if_false, Option.some.injEq] at h1 h2
          have := (hgt z b h1).2.2; omega
        · simp only [hz, hz', if_false] at h1 h2
          exact hgi z z' b h1 h2
      have HR := Lib.hid (And.intro hrg7 (And.intro hb7 (And.intro hx7 (And.intro hpm7 (And.intro hr1 (And.intro hr2 (And.intro hr3 hc47)))))))
      generalize s.files[f].1.length = dl1 at *
      generalize s.files[f].2.length = dl2 at *
      clear hs1 hrg7 hb7 hx7 hpm7 hr1 hr2 hr3 hc47 hH hvd hvs hfh hfh5 hgs hgt hgi hpm hpm6 htw hx6 hz1 hz2 hz3 hz4 hz6
      go_wp2_with (rw [hw6])
      go_roundw
      case rel => exact ⟨_, cnt1, k + 1, _, HR.out.1, by omega, HR.out.2.1, HR.out.2.2.1, HR.out.2.2.2.1, HR.out.2.2.2.2.1, HR.out.2.2.2.2.2.1, HR.out.2.2.2.2.2.2.1, HR.out.2.2.2.2.2.2.2⟩
      case measure => rw [hleq, hleq0]; omega

end Go.Proofs.YtlmdpcaikhdenaaGreat
