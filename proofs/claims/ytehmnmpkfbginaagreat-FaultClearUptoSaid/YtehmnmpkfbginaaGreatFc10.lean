/- Texts of this claim, one behind the other: DkL. -/
import Derived.Test.YtehmnmpkfbginaaGreatFc09
import Derived.Deep.RegionLaw
import Derived.BigRegion
import Derived.BigQuiet
set_option linter.unusedSimpArgs false
set_option linter.unusedVariables false
/- Disk: Sync. -/
namespace Go.Proofs.YtehmnmpkfbginaaGreat
open Go.RowKit Go.Maps Go.Shelf

theorem pairs_of {w : World} {R : Nat → Prop} : ∀ (ws : List (List Value)) (W : List Wr), ws.length = W.length → (∀ (i : Nat) c x, ws[i]? = some c → W[i]? = some x → WrIn w R c x) →
    ∃ ps : List (Wv × Wr), ws = ps.map (fun p => encW p.1) ∧ W = ps.map (·.2) ∧ ∀ p ∈ ps, p.1.1 = p.2.file ∧ WrIn w R (encW p.1) p.2
  | [], [], _, _ => ⟨[], rfl, rfl, fun p hp => by cases hp⟩
  | [], _ :: _, h, _ => by simp at h
  | _ :: _, [], h, _ => by simp at h
  | c :: r, x :: W, h, hw => by
    obtain ⟨ps, e1, e2, h3⟩ := pairs_of r W (by simpa using h) (fun i c x hc hx => hw (i + 1) c x (by simpa using hc) (by simpa using hx))
    have h0 := hw 0 c x rfl rfl
    have h0' := h0
    obtain ⟨f, hc, hl⟩ := h0
    have hfn : ∃ F C, f = Value.func (.func F) #[] C := by
      unfold LayIn at hl
      split at hl
      · obtain ⟨y, e, _⟩ := hl; exact ⟨_, _, e⟩
      · obtain ⟨y, z, u, e, _⟩ := hl; exact ⟨_, _, e⟩
    obtain ⟨F, C, rfl⟩ := hfn
    subst hc
    refine ⟨((x.file, x.data.length, x.cut, F, C), x) :: ps, by rw [e1]; rfl, by rw [e2]; rfl, fun p hp => ?_⟩
    rcases List.mem_cons.1 hp with rfl | hp
    · exact ⟨rfl, h0'⟩
    · exact h3 p hp

theorem deleteW_nil {bx : Nat} {w : World} :
    Calls Tryz.prog 116 #[.slice none 0 0, .func (.func 117) #[] #[.pointer (some ⟨bx, 0, none⟩)]] w fun e w' => e = .returned (.slice none 0 0) ∧ Below w.heap.size w w' := by
  have hI : Calls Tryz.prog 120 #[.slice none 0 0, .func (.func 117) #[] #[.pointer (some ⟨bx, 0, none⟩)]] w fun e w' => e = .returned (.int .i64 (-1)) ∧ w = w' := by
    go_enter Tryz.func120, Tryz.ntmps120
    go_wp2
    refine wp_loop_rounds 1 ?_
    rw [rounds_succ]
    go_wp2
    go_ret
    exact ⟨rfl, rfl⟩
  go_enter Tryz.func116, Tryz.ntmps116
  go_wp2_with (go_at_call 120; refine hI.mono ?_; rintro _ w1 ⟨rfl, rfl⟩)
  go_ret
  exact ⟨rfl, Below.refl _ _⟩

theorem deleteW_row {f bx : Nat} {zs : List Wv} {v : Value} {w : World} (h : w.ownsRow 0 97 4 v zs.length ((zs.map encW).flatten)) (hn : zs.length ≤ 1000000000) (hbx : w.cell? ⟨bx, 0, none⟩ = some (.int .i64 (f : Int))) (hne : v.ownBlock ≠ some bx) :
    Calls Tryz.prog 116 #[v, .func (.func 117) #[] #[.pointer (some ⟨bx, 0, none⟩)]] w fun e w' =>
      ∃ v', e = .returned v' ∧ w'.ownsRow 0 97 4 v' (zs.filter (fun x => !(x.1 == f))).length (((zs.filter (fun x => !(x.1 == f))).map encW).flatten) ∧ v'.ownBlock = v.ownBlock ∧ Chg (fun k => v.ownBlock = some k) w w' := by
  obtain ⟨_, h⟩ := h
  rcases h with ⟨rfl, hz⟩ | ⟨g, cap, cur, rfl, _, hg, hle, hm, hsz, ht⟩
  · obtain rfl : zs = [] := List.eq_nil_of_length_eq_zero hz
    refine deleteW_nil.mono ?_
    rintro _ w' ⟨rfl, hb⟩
    exact ⟨.slice none 0 0, rfl, World.ownsRow_nil w' 0 97 4, rfl, Chg.of_below hb⟩
  · have hfl : (zs.filter (fun x => !(x.1 == f))).length ≤ cap := Nat.le_trans (List.length_filter_le _ _) hle
    refine (deleteW_any (cap := cap) (cur := cur.toList) (by simpa using hg) (by simpa using hsz) hle (cells_of_flat _ _ ht) hn hbx (fun e => hne (by rw [← e]; rfl))).mono ?_
    rintro _ w' ⟨cur', rfl, hg', hl', hc', hch⟩
    refine ⟨_, rfl, ⟨by rw [flat_len], .inr ⟨g, cap, cur'.toArray, rfl, Nat.zero_le _, hg', hfl, hm, by simpa using hl', ?_⟩⟩, rfl, hch.mono (fun x hx _ => by subst hx; rfl)⟩
    exact take_of_cells _ _ hc'

def DSt.syncAt (s : DSt) (f : Nat) : DSt := { s with files := s.files.set f (s.stands f, s.stands f), writes := s.writes.filter (fun x => !(x.file == f)) }
theorem sync_some {s : DSt} {k : List UInt8} {f : Nat} (hf : nlFind s.names k = some f) : s.sync k = (s.tick.syncAt f, 0) := by unfold DSt.sync; rw [hf]; rfl
theorem enters_sync1 : enters 115 := fun args w => by go_simp

set_option maxRecDepth 100000 in
set_option maxHeartbeats 4000000 in
theorem sync1_any {w0 w : World} {p : Nat} {s : DSt} {R : Nat → Prop} {mf mn ms : Nat} {fb : List Nat} {vs vw : Value} {ss : List Value} {ws : List (List Value)} {e : TypeId} (h : DiskP w p s R mf mn ms fb vs vw ss ws e)
    (hc : Chg (· ∈ ownL p mf mn vs vw fb) w0 w) (hR : ∀ b, R b → b < w0.heap.size ∧ b ∉ ownL p mf mn vs vw fb) {N : Nat} (hok : s.Ok N) (hN : N < maxList) {n : Nat} {k : List UInt8} (hf : nlFind s.names k = some n)
    {bd : Nat} (cd : w.cell? ⟨bd, 0, none⟩ = some (.pointer (some ⟨p, 0, none⟩))) (hbd : bd ∉ ownL p mf mn vs vw fb) :
    Calls Tryz.prog 115 #[.int .i64 (n : Int), .pointer (some ⟨bd, 0, none⟩)] w fun e w' => ∃ v, e = .returned (.int .i64 v) ∧ v = 0 ∧ Turns w0 w' p (s.syncAt n) (ownL p mf mn vs vw fb) R := by
  have hmx : maxList = 4194304 := rfl
  have hn := (hok.names _ (nlFind_mem hf)).1
  have hnn : n ≤ 4194304 := by have := hok.manyFiles; omega
  obtain ⟨o, ho⟩ : ∃ o, o = Obj.cells #[.int .i64 (n : Int)] 3 := ⟨_, rfl⟩
  have hb1 := below_alloc w o
  have h1 := h.below hb1
  have hbx1 : (w.alloc o).heap[w.heap.size]? = some o := World.alloc_heap_new w o
  have hz1 : (w.alloc o).heap.size = w.heap.size + 1 := World.size_alloc _ _
  have cd1 := (hb1.cell (p := ⟨bd, 0, none⟩) (cell_lt cd)).trans cd
  have hc1 : Chg (· ∈ ownL p mf mn vs vw fb) w0 (w.alloc o) := hc.trans (Chg.of_below hb1) (fun _ h _ => h)
  have hltp := heap_lt h.cells
  have hown : ∀ b ∈ ownL p mf mn vs vw fb, b < w.heap.size := fun b hb => h.lt hb
  obtain ⟨b, e', vd, vs', hfb, hfh, hbd', hbs, hlk⟩ := h1.file_at (n := n) hn (by omega)
  obtain ⟨da, dc, rfl, _, _, _⟩ := hbd'.row
  go_enter Tryz.func115, Tryz.ntmps115
  go_wp2
  rw [← ho]
  generalize w.alloc o = w1 at *
  subst ho
  have c1 := cell_of_heap h1.cells (i := 1) (v := .map (some mf)) (by rfl)
  have d0 := cell_of_heap hbx1 (i := 0) (v := .int .i64 (n : Int)) (by rfl)
  go_quiet (fail)
  have hcn : Chg (fun _ => False) w1 (w1.drewN nq) := (Chg.refl _ w1).drewN nq
  have h2 := h1.drewN nq
  have hbd2 := hbd'.kept hcn (fun _ _ h => h) (fun _ h => h)
  have hfh2 := hcn.obj hfh (fun h => h)
  have hbx2 := hcn.obj hbx1 (fun h => h)
  have cd2 := hcn.cell cd1 (fun h => h)
  have hc2 : Chg (· ∈ ownL p mf mn vs vw fb) w0 (w1.drewN nq) := hc1.drewN nq
  have hz2 : (w1.drewN nq).heap.size = w.heap.size + 1 := hz1
  clear hbd' hbs hfh hbx1 hlk c1 d0 hcn hb1 hz1 h1 cd1 hc1
  generalize w1.drewN nq = w2 at *
  have f0 := cell_of_heap hfh2 (i := 0) (v := .slice da (s.stands n).length dc) (by rfl)
  obtain ⟨f1v, f1⟩ : ∃ u, w2.cell? ⟨b, 1, none⟩ = some u := ⟨vs', cell_of_heap hfh2 (by rfl)⟩
  have z1 := frozen_of_heap (i := 1) hfh2
  have hc23 : Chg (· = b) w2 (w2.setCell ⟨b, 1, none⟩ (.slice da (s.stands n).length dc)) := Chg.set _ rfl
  have hbm := mem_own_fb (p := p) (mf := mf) (mn := mn) (vs := vs) (vw := vw) (List.mem_of_getElem? hfb)
  have hRb : ∀ y, R y → ¬ y = b := fun y hy e => (hR y hy).2 (e ▸ hbm)
  have h3 := h2.setFile hfb (d := s.stands n) (d' := s.stands n) hc23 ⟨e', _, _, heap_set_cells (i := 1) (.slice da (s.stands n).length dc) hfh2, hbd2.kept hc23 hRb (fun _ h => h), hbd2.kept hc23 hRb (fun _ h => h)⟩
  have hc3 : Chg (· ∈ ownL p mf mn vs vw fb) w0 (w2.setCell ⟨b, 1, none⟩ (.slice da (s.stands n).length dc)) := hc2.trans hc23 (fun y e _ => by subst e; exact hbm)
  have hblt := hown b hbm
  have hbx3 := hc23.obj hbx2 (by show ¬ (w.heap.size = b); omega)
  have cd3 := hc23.cell cd2 (by show ¬ (bd = b); exact fun e => hbd (e ▸ hbm))
  have hsw : (w2.setCell ⟨b, 1, none⟩ (.slice da (s.stands n).length dc)).heap.size = w.heap.size + 1 := by rw [← hz2]; simp [World.setCell]
  have HSW := Lib.hid hsw; clear hsw
  have HZ2 := Lib.hid hz2; clear hz2
  have HR := Lib.hid hR; clear hR
  have HRb := Lib.hid hRb; clear hRb
  have HOWN := Lib.hid hown; clear hown
  go_wp2
  generalize w2.setCell ⟨b, 1, none⟩ (.slice da (s.stands n).length dc) = w3 at *
  clear hc23 hbx2 cd2 h2 hbd2 hfh2 f0 f1 z1
  have hcd : Chg (fun _ => False) w3 w3.drew := (Chg.refl _ w3).drew
  have h4 := h3.kept hcd (fun _ _ h => h) (fun _ _ h => h)
  have c5 := cell_of_heap h3.cells (i := 5) (v := vw) (by rfl)
  obtain ⟨ps, e1, e2, e3⟩ := pairs_of ws s.writes h3.count4 h3.write
  have hcell4 := h4.cells
  have hdel := deleteW_row (w := w3.drew) (f := n) (bx := w.heap.size) (zs := ps.map (·.1)) (v := vw) (by
    have := h4.writesR
    rw [e1] at this
    have e4 : s.writes.length = (ps.map (·.1)).length := by rw [e2]; simp
    rw [e4] at this
    have e5 : (ps.map (·.1)).map encW = ps.map (fun p => encW p.1) := by simp
    rw [e5]; exact this) (by have := hok.manyWrites; rw [e2] at this; simp at this ⊢; omega) (cell_of_heap (hcd.obj hbx3 (fun h => h)) (i := 0) (by rfl)) (fun e => by have := HOWN.out _ (mem_own_vw (p := p) (mf := mf) (mn := mn) (vs := vs) (fb := fb) e); omega)
  obtain ⟨n1, n2, n3, n4, n5⟩ := h.ne_p
  have HC4 := Lib.hid hcell4; clear hcell4
  go_region_law (first | (go_simp; refine hdel.mono ?_; rintro _ w5 ⟨v', rfl, hrow5, hat5, hch5⟩; obtain ⟨va, vc, rfl⟩ := row_slice hrow5; have k5 := cell_of_heap (hch5.obj HC4.out (fun e => n4 _ e rfl)) (i := 5) (v := vw) (by rfl); have z5 := frozen_of_heap (i := 5) (hch5.obj HC4.out (fun e => n4 _ e rfl)); have kd := hch5.cell (hcd.cell cd3 (fun h => h)) (fun e => hbd (mem_own_vw e))))
  all_goals
    go_wp2
    go_ret
    have hwf : (s.writes.filter (fun x => !(x.file == n))) = (ps.filter (fun q => !(q.1.1 == n))).map (·.2) := by
      rw [e2, List.filter_map]
      congr 1
      apply List.filter_congr
      intro q hq
      simp only [Function.comp]
      rw [(e3 q hq).1]
    have hzf : ((ps.map (·.1)).filter (fun x => !(x.1 == n))) = (ps.filter (fun q => !(q.1.1 == n))).map (·.1) := by
      rw [List.filter_map]; rfl
    have hrow6 : w5.ownsRow 0 97 4 (.slice va ((ps.map (·.1)).filter (fun x => !(x.1 == n))).length vc) (s.writes.filter (fun x => !(x.file == n))).length ((ps.filter (fun q => !(q.1.1 == n))).map (fun p => encW p.1)).flatten := by
      have e4 : (s.writes.filter (fun x => !(x.file == n))).length = ((ps.map (·.1)).filter (fun x => !(x.1 == n))).length := by rw [hwf, hzf]; simp
      have e5 : (ps.filter (fun q => !(q.1.1 == n))).map (fun p => encW p.1) = ((ps.map (·.1)).filter (fun x => !(x.1 == n))).map encW := by rw [hzf]; simp
      rw [e4, e5]
      exact hrow5
    refine ⟨_, rfl, rfl, Turns.after' hc3 HR.out (h3.setWrites (W := s.writes.filter (fun x => !(x.file == n))) (ws' := (ps.filter (fun q => !(q.1.1 == n))).map (fun p => encW p.1)) (((Chg.refl _ w3).drew).trans hch5 (fun _ h _ => h)) hrow6 (.inl hat5) (by rw [hwf]; simp) ?_) (fun y hy => .inl hy) (fun y hy => .inl hy)⟩
    intro i c y hc' hy
    rw [hwf] at hy
    rw [List.getElem?_map, Option.map_eq_some_iff] at hc' hy
    obtain ⟨q1, hq1, rfl⟩ := hc'
    obtain ⟨q2, hq2, rfl⟩ := hy
    rw [hq1] at hq2
    cases hq2
    exact (e3 q1 (List.mem_filter.1 (List.mem_of_getElem? hq1)).1).2

set_option maxRecDepth 100000 in
set_option maxHeartbeats 4000000 in
theorem Sync_any {w : World} {p : Nat} {s : DSt} {R : Nat → Prop} {mf mn ms : Nat} {fb : List Nat} {vs vw : Value} {ss : List Value} {ws : List (List Value)} {e : TypeId} (h : DiskP w p s R mf mn ms fb vs vw ss ws e)
    {k : List UInt8} (hk : k.length ≤ maxLen) {N : Nat} (hok : s.Ok N) (hN : N + 1 < maxList) :
    Calls Tryz.prog 100 #[.pointer (some ⟨p, 0, none⟩), .string ⟨k.toArray⟩] w fun e w' => e = .returned (.int .i64 ((s.sync k).2 : Int)) ∧ Turns w w' p (s.sync k).1 (ownL p mf mn vs vw fb) R := by
  obtain ⟨w3, hw3⟩ : ∃ w3, w.alloc (.cells #[.pointer (some ⟨p, 0, none⟩)] 31) = w3 := ⟨_, rfl⟩
  have hb3 : Below w.heap.size w w3 := by rw [← hw3]; exact below_alloc w _
  have hz3 : w3.heap.size = w.heap.size + 1 := by rw [← hw3]; simp
  have hcd : Boxed w3 w.heap.size 31 (.pointer (some ⟨p, 0, none⟩)) := by rw [← hw3]; exact Boxed.new _ _ _
  have h3 := h.below hb3
  have hd := hok.done
  have hmx : maxList = 4194304 := rfl
  have hplt := heap_lt h.cells
  have hc4 : Chg (· ∈ ownL p mf mn vs vw fb) w (w3.setCell ⟨p, 6, none⟩ (.int .i64 ((s.done + 1 : Nat) : Int))) := (Chg.of_below hb3).trans (Chg.set _ mem_own_p) (fun _ h _ => h)
  have hcs : Chg (· = p) w3 (w3.setCell ⟨p, 6, none⟩ (.int .i64 ((s.done + 1 : Nat) : Int))) := Chg.set _ rfl
  have hcd1 := hcd.cell
  cases hf : nlFind s.names k with
  | none =>
    have he : s.sync k = (s.tick, 7) := by unfold DSt.sync; rw [hf]
    rw [he]
    have hst := fun f => step_none h3 hk hf (by omega) f
    have hT := h3.tick.turnsSince hc4 h.hR
    clear he
    have HZ := Lib.hid hz3; clear hz3
    go_enter Tryz.func100, Tryz.ntmps100
    go_wp2_with fail
    refine (hst _).mono ?_
    rintro _ w4 ⟨rfl, rfl⟩
    go_wp2
    go_ret
    exact ⟨rfl, hT⟩
  | some n =>
    rw [sync_some hf]
    have hne0 : ¬ w.heap.size = p := by omega
    have hw1 := sync1_any h3.tick hc4 h.hR hok.ticked hN (n := n) (k := k) hf (hcs.cell hcd.cell hne0) (fun hm => by have := h.lt hm; omega)
    have hst := step_some h3 hk hf (by omega) 115 #[.pointer (some ⟨w.heap.size, 0, none⟩)] enters_sync1 (fun v w' => v = 0 ∧ Turns w w' p (s.tick.syncAt n) (ownL p mf mn vs vw fb) R) hw1
    have HZ := Lib.hid hz3; clear hz3
    go_enter Tryz.func100, Tryz.ntmps100
    go_wp2_with fail
    refine hst.mono ?_
    rintro _ w4 ⟨v, rfl, rfl, hT⟩
    go_wp2
    go_ret
    exact ⟨rfl, hT⟩

end Go.Proofs.YtehmnmpkfbginaaGreat
