/- Texts of this claim, one behind the other: DkL, DkN, DkO. -/
import Derived.Test.YtlmdpcaikhdenaaGreatSl13
import Derived.Deep.RegionLaw
import Derived.BigRegion
import Derived.BigQuiet
import Derived.Test.YtlmdpcaikhdenaaGreatSl01
import Derived.Lib.QuietBelow
set_option linter.unusedSimpArgs false
set_option linter.unusedVariables false
/- Disk: Sync. -/
namespace Go.Proofs.YtlmdpcaikhdenaaGreat
open Go.RowKit Go.Maps Go.Shelf

theorem pairs_of {w : World} {R : Nat → Prop} : ∀ (ws : List (List Value)) (W : List Wr), ws.length = W.length → (∀ (i : Nat) c x, ws[i]? = some c → W[i]? = some x → WrIn w R c x) →
    ∃ ps : List (Wv × Wr), ws = ps.map (fun p => encW p.1) ∧ W = ps.map (·.2) ∧ ∀ p ∈ ps, p.1.1 = p.2.file ∧ WrIn w R (encW p.1) p.2
  | [], [], _, _ => ⟨[], rfl, rfl, fun p hp => by cases hp⟩
  | [], _ :: _, h, _ => by simp at h
  | _ :: _, [], h, _ => by simp at h
  | c :: r, x :: W, h, hw => by
    obtain ⟨ps, e1, e2, h3⟩ := pairs_of r W (by simpa using h) (fun i c x hc hx => hw (i + 1) c x (by simpa using hc) (by simpa using hx))
    have h0 := hw 0 c x rfl rfl
    have h0' := h0
    obtain ⟨f, hc, hl⟩ := h0
    have hfn : ∃ F C, f = Value.func (.func F) #[] C := by
      unfold LayIn at hl
      split at hl
      · obtain ⟨y, e, _⟩ := hl; exact ⟨_, _, e⟩
      · obtain ⟨y, z, u, e, _⟩ := hl; exact ⟨_, _, e⟩
    obtain ⟨F, C, rfl⟩ := hfn
    subst hc
    refine ⟨((x.file, x.data.length, x.cut, F, C), x) :: ps, by rw [e1]; rfl, by rw [e2]; rfl, fun p hp => ?_⟩
    rcases List.mem_cons.1 hp with rfl | hp
    · exact ⟨rfl, h0'⟩
    · exact h3 p hp

theorem deleteW_nil {bx : Nat} {w : World} :
    Calls Tryz.prog 239 #[.slice none 0 0, .func (.func 240) #[] #[.pointer (some ⟨bx, 0, none⟩)]] w fun e w' => e = .returned (.slice none 0 0) ∧ Below w.heap.size w w' := by
  have hI : Calls Tryz.prog 244 #[.slice none 0 0, .func (.func 240) #[] #[.pointer (some ⟨bx, 0, none⟩)]] w fun e w' => e = .returned (.int .i64 (-1)) ∧ w = w' := by
    go_enter Tryz.func244, Tryz.ntmps244
    go_wp2
    refine wp_loop_rounds 1 ?_
    rw [rounds_succ]
    go_wp2
    go_ret
    exact ⟨rfl, rfl⟩
  go_enter Tryz.func239, Tryz.ntmps239
  go_wp2_with (go_at_call 244; refine hI.mono ?_; rintro _ w1 ⟨rfl, rfl⟩)
  go_ret
  exact ⟨rfl, Below.refl _ _⟩

theorem deleteW_row {f bx : Nat} {zs : List Wv} {v : Value} {w : World} (h : w.ownsRow 0 125 4 v zs.length ((zs.map encW).flatten)) (hn : zs.length ≤ 1000000000) (hbx : w.cell? ⟨bx, 0, none⟩ = some (.int .i64 (f : Int))) (hne : v.ownBlock ≠ some bx) :
    Calls Tryz.prog 239 #[v, .func (.func 240) #[] #[.pointer (some ⟨bx, 0, none⟩)]] w fun e w' =>
      ∃ v', e = .returned v' ∧ w'.ownsRow 0 125 4 v' (zs.filter (fun x => !(x.1 == f))).length (((zs.filter (fun x => !(x.1 == f))).map encW).flatten) ∧ v'.ownBlock = v.ownBlock ∧ Chg (fun k => v.ownBlock = some k) w w' := by
  obtain ⟨_, h⟩ := h
  rcases h with ⟨rfl, hz⟩ | ⟨g, cap, cur, rfl, _, hg, hle, hm, hsz, ht⟩
  · obtain rfl : zs = [] := List.eq_nil_of_length_eq_zero hz
    refine deleteW_nil.mono ?_
    rintro _ w' ⟨rfl, hb⟩
    exact ⟨.slice none 0 0, rfl, World.ownsRow_nil w' 0 125 4, rfl, Chg.of_below hb⟩
  · have hfl : (zs.filter (fun x => !(x.1 == f))).length ≤ cap := Nat.le_trans (List.length_filter_le _ _) hle
    refine (deleteW_any (cap := cap) (cur := cur.toList) (by simpa using hg) (by simpa using hsz) hle (cells_of_flat _ _ ht) hn hbx (fun e => hne (by rw [← e]; rfl))).mono ?_
    rintro _ w' ⟨cur', rfl, hg', hl', hc', hch⟩
    refine ⟨_, rfl, ⟨by rw [flat_len], .inr ⟨g, cap, cur'.toArray, rfl, Nat.zero_le _, hg', hfl, hm, by simpa using hl', ?_⟩⟩, rfl, hch.mono (fun x hx _ => by subst hx; rfl)⟩
    exact take_of_cells _ _ hc'

def DSt.syncAt (s : DSt) (f : Nat) : DSt := { s with files := s.files.set f (s.stands f, s.stands f), writes := s.writes.filter (fun x => !(x.file == f)) }
theorem sync_some {s : DSt} {k : List UInt8} {f : Nat} (hf : nlFind s.names k = some f) : s.sync k = (s.tick.syncAt f, 0) := by unfold DSt.sync; rw [hf]; rfl
theorem enters_sync1 : enters 238 := fun args w => by go_simp

set_option maxRecDepth 100000 in
set_option maxHeartbeats 4000000 in
theorem sync1_any {w0 w : World} {p : Nat} {s : DSt} {R : Nat → Prop} {mf mn ms : Nat} {fb : List Nat} {vs vw : Value} {ss : List Value} {ws : List (List Value)} {e : TypeId} (h : DiskP w p s R mf mn ms fb vs vw ss ws e)
    (hc : Chg (· ∈ ownL p mf mn vs vw fb) w0 w) (hR : ∀ b, R b → b < w0.heap.size ∧ b ∉ ownL p mf mn vs vw fb) {N : Nat} (hok : s.Ok N) (hN : N < maxList) {n : Nat} {k : List UInt8} (hf : nlFind s.names k = some n)
    {bd : Nat} (cd : w.cell? ⟨bd, 0, none⟩ = some (.pointer (some ⟨p, 0, none⟩))) (hbd : bd ∉ ownL p mf mn vs vw fb) :
    Calls Tryz.prog 238 #[.int .i64 (n : Int), .pointer (some ⟨bd, 0, none⟩)] w fun e w' => ∃ v, e = .returned (.int .i64 v) ∧ v = 0 ∧ Turns w0 w' p (s.syncAt n) (ownL p mf mn vs vw fb) R := by
  have hmx : maxList = 4194304 := rfl
  have hn := (hok.names _ (nlFind_mem hf)).1
  have hnn : n ≤ 4194304 := by have := hok.manyFiles; omega
  obtain ⟨o, ho⟩ : ∃ o, o = Obj.cells #[.int .i64 (n : Int)] 3 := ⟨_, rfl⟩
  have hb1 := below_alloc w o
  have h1 := h.below hb1
  have hbx1 : (w.alloc o).heap[w.heap.size]? = some o := World.alloc_heap_new w o
  have hz1 : (w.alloc o).heap.size = w.heap.size + 1 := World.size_alloc _ _
  have cd1 := (hb1.cell (p := ⟨bd, 0, none⟩) (cell_lt cd)).trans cd
  have hc1 : Chg (· ∈ ownL p mf mn vs vw fb) w0 (w.alloc o) := hc.trans (Chg.of_below hb1) (fun _ h _ => h)
  have hltp := heap_lt h.cells
  have hown : ∀ b ∈ ownL p mf mn vs vw fb, b < w.heap.size := fun b hb => h.lt hb
  obtain ⟨b, e', vd, vs', hfb, hfh, hbd', hbs, hlk⟩ := h1.file_at (n := n) hn (by omega)
  obtain ⟨da, dc, rfl, _, _, _⟩ := hbd'.row
  go_enter Tryz.func238, Tryz.ntmps238
  go_wp2
  rw [← ho]
  generalize w.alloc o = w1 at *
  subst ho
  have c1 := cell_of_heap h1.cells (i := 1) (v := .map (some mf)) (by rfl)
  have d0 := cell_of_heap hbx1 (i := 0) (v := .int .i64 (n : Int)) (by rfl)
  go_quiet (fail)
  have hcn : Chg (fun _ => False) w1 (w1.drewN nq) := (Chg.refl _ w1).drewN nq
  have h2 := h1.drewN nq
  have hbd2 := hbd'.kept hcn (fun _ _ h => h) (fun _ h => h)
  have hfh2 := hcn.obj hfh (fun h => h)
  have hbx2 := hcn.obj hbx1 (fun h => h)
  have cd2 := hcn.cell cd1 (fun h => h)
  have hc2 : Chg (· ∈ ownL p mf mn vs vw fb) w0 (w1.drewN nq) := hc1.drewN nq
  have hz2 : (w1.drewN nq).heap.size = w.heap.size + 1 := hz1
  clear hbd' hbs hfh hbx1 hlk c1 d0 hcn hb1 hz1 h1 cd1 hc1
  generalize w1.drewN nq = w2 at *
  have f0 := cell_of_heap hfh2 (i := 0) (v := .slice da (s.stands n).length dc) (by rfl)
  obtain ⟨f1v, f1⟩ : ∃ u, w2.cell? ⟨b, 1, none⟩ = some u := ⟨vs', cell_of_heap hfh2 (by rfl)⟩
  have z1 := frozen_of_heap (i := 1) hfh2
  have hc23 : Chg (· = b) w2 (w2.setCell ⟨b, 1, none⟩ (.slice da (s.stands n).length dc)) := Chg.set _ rfl
  have hbm := mem_own_fb (p := p) (mf := mf) (mn := mn) (vs := vs) (vw := vw) (List.mem_of_getElem? hfb)
  have hRb : ∀ y, R y → ¬ y = b := fun y hy e => (hR y hy).2 (e ▸ hbm)
  have h3 := h2.setFile hfb (d := s.stands n) (d' := s.stands n) hc23 ⟨e', _, _, heap_set_cells (i := 1) (.slice da (s.stands n).length dc) hfh2, hbd2.kept hc23 hRb (fun _ h => h), hbd2.kept hc23 hRb (fun _ h => h)⟩
  have hc3 : Chg (· ∈ ownL p mf mn vs vw fb) w0 (w2.setCell ⟨b, 1, none⟩ (.slice da (s.stands n).length dc)) := hc2.trans hc23 (fun y e _ => by subst e; exact hbm)
  have hblt := hown b hbm
  have hbx3 := hc23.obj hbx2 (by show ¬ (w.heap.size = b); omega)
  have cd3 := hc23.cell cd2 (by show ¬ (bd = b); exact fun e => hbd (e ▸ hbm))
  have hsw : (w2.setCell ⟨b, 1, none⟩ (.slice da (s.stands n).length dc)).heap.size = w.heap.size + 1 := by rw [← hz2]; simp [World.setCell]
  have HSW := Lib.hid hsw; clear hsw
  have HZ2 := Lib.hid hz2; clear hz2
  have HR := Lib.hid hR; clear hR
  have HRb := Lib.hid hRb; clear hRb
  have HOWN := Lib.hid hown; clear hown
  go_wp2
  generalize w2.setCell ⟨b, 1, none⟩ (.slice da (s.stands n).length dc) = w3 at *
  clear hc23 hbx2 cd2 h2 hbd2 hfh2 f0 f1 z1
  have hcd : Chg (fun _ => False) w3 w3.drew := (Chg.refl _ w3).drew
  have h4 := h3.kept hcd (fun _ _ h => h) (fun _ _ h => h)
  have c5 := cell_of_heap h3.cells (i := 5) (v := vw) (by rfl)
  obtain ⟨ps, e1, e2, e3⟩ := pairs_of ws s.writes h3.count4 h3.write
  have hcell4 := h4.cells
  have hdel := deleteW_row (w := w3.drew) (f := n) (bx := w.heap.size) (zs := ps.map (·.1)) (v := vw) (by
    have := h4.writesR
    rw [e1] at this
    have e4 : s.writes.length = (ps.map (·.1)).length := by rw [e2]; simp
    rw [e4] at this
    have e5 : (ps.map (·.1)).map encW = ps.map (fun p => encW p.1) := by simp
    rw [e5]; exact this) (by have := hok.manyWrites; rw [e2] at this; simp at this ⊢; omega) (cell_of_heap (hcd.obj hbx3 (fun h => h)) (i := 0) (by rfl)) (fun e => by have := HOWN.out _ (mem_own_vw (p := p) (mf := mf) (mn := mn) (vs := vs) (fb := fb) e); omega)
  obtain ⟨n1, n2, n3, n4, n5⟩ := h.ne_p
  have HC4 := Lib.hid hcell4; clear hcell4
  go_region_law (first | (go_simp; refine hdel.mono ?_; rintro _ w5 ⟨v', rfl, hrow5, hat5, hch5⟩; obtain ⟨va, vc, rfl⟩ := row_slice hrow5; have k5 := cell_of_heap (hch5.obj HC4.out (fun e => n4 _ e rfl)) (i := 5) (v := vw) (by rfl); have z5 := frozen_of_heap (i := 5) (hch5.obj HC4.out (fun e => n4 _ e rfl)); have kd := hch5.cell (hcd.cell cd3 (fun h => h)) (fun e => hbd (mem_own_vw e))))
  all_goals
    go_wp2
    go_ret
    have hwf : (s.writes.filter (fun x => !(x.file == n))) = (ps.filter (fun q => !(q.1.1 == n))).map (·.2) := by
      rw [e2, List.filter_map]
      congr 1
      apply List.filter_congr
      intro q hq
      simp only [Function.comp]
      rw [(e3 q hq).1]
    have hzf : ((ps.map (·.1)).filter (fun x => !(x.1 == n))) = (ps.filter (fun q => !(q.1.1 == n))).map (·.1) := by
      rw [List.filter_map]; rfl
    have hrow6 : w5.ownsRow 0 125 4 (.slice va ((ps.map (·.1)).filter (fun x => !(x.1 == n))).length vc) (s.writes.filter (fun x => !(x.file == n))).length ((ps.filter (fun q => !(q.1.1 == n))).map (fun p => encW p.1)).flatten := by
      have e4 : (s.writes.filter (fun x => !(x.file == n))).length = ((ps.map (·.1)).filter (fun x => !(x.1 == n))).length := by rw [hwf, hzf]; simp
      have e5 : (ps.filter (fun q => !(q.1.1 == n))).map (fun p => encW p.1) = ((ps.map (·.1)).filter (fun x => !(x.1 == n))).map encW := by rw [hzf]; simp
      rw [e4, e5]
      exact hrow5
    refine ⟨_, rfl, rfl, Turns.after' hc3 HR.out (h3.setWrites (W := s.writes.filter (fun x => !(x.file == n))) (ws' := (ps.filter (fun q => !(q.1.1 == n))).map (fun p => encW p.1)) (((Chg.refl _ w3).drew).trans hch5 (fun _ h _ => h)) hrow6 (.inl hat5) (by rw [hwf]; simp) ?_) (fun y hy => .inl hy) (fun y hy => .inl hy)⟩
    intro i c y hc' hy
    rw [hwf] at hy
    rw [List.getElem?_map, Option.map_eq_some_iff] at hc' hy
    obtain ⟨q1, hq1, rfl⟩ := hc'
    obtain ⟨q2, hq2, rfl⟩ := hy
    rw [hq1] at hq2
    cases hq2
    exact (e3 q1 (List.mem_filter.1 (List.mem_of_getElem? hq1)).1).2

set_option maxRecDepth 100000 in
set_option maxHeartbeats 4000000 in
theorem Sync_any {w : World} {p : Nat} {s : DSt} {R : Nat → Prop} {mf mn ms : Nat} {fb : List Nat} {vs vw : Value} {ss : List Value} {ws : List (List Value)} {e : TypeId} (h : DiskP w p s R mf mn ms fb vs vw ss ws e)
    {k : List UInt8} (hk : k.length ≤ maxLen) {N : Nat} (hok : s.Ok N) (hN : N + 1 < maxList) :
    Calls Tryz.prog 225 #[.pointer (some ⟨p, 0, none⟩), .string ⟨k.toArray⟩] w fun e w' => e = .returned (.int .i64 ((s.sync k).2 : Int)) ∧ Turns w w' p (s.sync k).1 (ownL p mf mn vs vw fb) R := by
  obtain ⟨w3, hw3⟩ : ∃ w3, w.alloc (.cells #[.pointer (some ⟨p, 0, none⟩)] 45) = w3 := ⟨_, rfl⟩
  have hb3 : Below w.heap.size w w3 := by rw [← hw3]; exact below_alloc w _
  have hz3 : w3.heap.size = w.heap.size + 1 := by rw [← hw3]; simp
  have hcd : Boxed w3 w.heap.size 45 (.pointer (some ⟨p, 0, none⟩)) := by rw [← hw3]; exact Boxed.new _ _ _
  have h3 := h.below hb3
  have hd := hok.done
  have hmx : maxList = 4194304 := rfl
  have hplt := heap_lt h.cells
  have hc4 : Chg (· ∈ ownL p mf mn vs vw fb) w (w3.setCell ⟨p, 6, none⟩ (.int .i64 ((s.done + 1 : Nat) : Int))) := (Chg.of_below hb3).trans (Chg.set _ mem_own_p) (fun _ h _ => h)
  have hcs : Chg (· = p) w3 (w3.setCell ⟨p, 6, none⟩ (.int .i64 ((s.done + 1 : Nat) : Int))) := Chg.set _ rfl
  have hcd1 := hcd.cell
  cases hf : nlFind s.names k with
  | none =>
    have he : s.sync k = (s.tick, 7) := by unfold DSt.sync; rw [hf]
    rw [he]
    have hst := fun f => step_none h3 hk hf (by omega) f
    have hT := h3.tick.turnsSince hc4 h.hR
    clear he
    have HZ := Lib.hid hz3; clear hz3
    go_enter Tryz.func225, Tryz.ntmps225
    go_wp2_with fail
    refine (hst _).mono ?_
    rintro _ w4 ⟨rfl, rfl⟩
    go_wp2
    go_ret
    exact ⟨rfl, hT⟩
  | some n =>
    rw [sync_some hf]
    have hne0 : ¬ w.heap.size = p := by omega
    have hw1 := sync1_any h3.tick hc4 h.hR hok.ticked hN (n := n) (k := k) hf (hcs.cell hcd.cell hne0) (fun hm => by have := h.lt hm; omega)
    have hst := step_some h3 hk hf (by omega) 238 #[.pointer (some ⟨w.heap.size, 0, none⟩)] enters_sync1 (fun v w' => v = 0 ∧ Turns w w' p (s.tick.syncAt n) (ownL p mf mn vs vw fb) R) hw1
    have HZ := Lib.hid hz3; clear hz3
    go_enter Tryz.func225, Tryz.ntmps225
    go_wp2_with fail
    refine hst.mono ?_
    rintro _ w4 ⟨v, rfl, rfl, hT⟩
    go_wp2
    go_ret
    exact ⟨rfl, hT⟩

end Go.Proofs.YtlmdpcaikhdenaaGreat
/- Disk: look, Read, Size, and what a disk tells of itself by a number. -/
namespace Go.Proofs.YtlmdpcaikhdenaaGreat
open Go.RowKit Go.Maps Go.Shelf

set_option maxHeartbeats 1000000 in
theorem look_none {w : World} {p : Nat} {s : DSt} {R : Nat → Prop} {mf mn ms : Nat} {fb : List Nat} {vs vw : Value} {ss : List Value} {ws : List (List Value)} {e : TypeId} (h : DiskP w p s R mf mn ms fb vs vw ss ws e)
    {k : List UInt8} (hk : k.length ≤ maxLen) (hf : nlFind s.names k = none) (f : Value) :
    Calls Tryz.prog 233 #[.pointer (some ⟨p, 0, none⟩), .string ⟨k.toArray⟩, f] w fun e w' => e = .returned (.int .i64 7) ∧ w = w' := by
  have hth := there_any h.cells (mn := mn) (by rfl)
  have c2 := cell_of_heap h.cells (i := 2) (v := .map (some mn)) (by rfl)
  have hl := look_name h.namesM hk
  rw [hf] at hl
  simp only [Option.getD_none, Option.isSome_none] at hl
  clear hf
  go_enter Tryz.func233, Tryz.ntmps233
  go_wp2_with (go_at_call 49; refine hth.mono ?_; rintro e w1 ⟨rfl, rfl⟩)
  go_ret
  exact ⟨rfl, rfl⟩

set_option maxHeartbeats 1000000 in
theorem look_some {w : World} {p : Nat} {s : DSt} {R : Nat → Prop} {mf mn ms : Nat} {fb : List Nat} {vs vw : Value} {ss : List Value} {ws : List (List Value)} {e : TypeId} (h : DiskP w p s R mf mn ms fb vs vw ss ws e)
    {k : List UInt8} (hk : k.length ≤ maxLen) {n b : Nat} (hf : nlFind s.names k = some n) (hb : fb[n]? = some b) (h63 : n < 9223372036854775808) (N : FuncId) (caps : Array Value) (henter : ∀ args w, (callFunc N args).run Tryz.prog w = .ok (.enter N args) w)
    (Q : Int → World → Prop) (hcall : Calls Tryz.prog N (#[.pointer (some ⟨b, 0, none⟩)] ++ caps) w fun e w' => ∃ v, e = .returned (.int .i64 v) ∧ Q v w') :
    Calls Tryz.prog 233 #[.pointer (some ⟨p, 0, none⟩), .string ⟨k.toArray⟩, .func (.func N) #[] caps] w fun e w' => ∃ v, e = .returned (.int .i64 v) ∧ Q v w' := by
  have hth := there_any h.cells (mn := mn) (by rfl)
  have c2 := cell_of_heap h.cells (i := 2) (v := .map (some mn)) (by rfl)
  have c1 := cell_of_heap h.cells (i := 1) (v := .map (some mf)) (by rfl)
  have hl := look_name h.namesM hk
  rw [hf] at hl
  simp only [Option.getD_some, Option.isSome_some] at hl
  obtain ⟨hlt, hbe⟩ := List.getElem?_eq_some_iff.1 hb
  have hlf := look_file h.filesM hlt h63
  rw [hbe] at hlf
  clear hf hbe hb
  go_enter Tryz.func233, Tryz.ntmps233
  go_wp2_with (first | (go_at_call 49; refine hth.mono ?_; rintro e w1 ⟨rfl, rfl⟩) | (refine hcall.mono ?_; rintro e w1 ⟨v, rfl, hq⟩))
  go_ret
  exact ⟨_, rfl, hq⟩

/-- Read, once the file is found -/
def readAt (l : List UInt8) (at_ n : Int) : List UInt8 × Nat := if at_ < 0 ∨ n < 0 then ([], 2) else if (l.length : Int) < at_ then ([], 4) else ((l.drop at_.toNat).take n.toNat, 0)
theorem read_some {s : DSt} {k : List UInt8} {f : Nat} (hf : nlFind s.names k = some f) (at_ n : Int) : s.read k at_ n = readAt (s.stands f) at_ n := by unfold DSt.read; rw [hf]; rfl
theorem enters_read1 : enters 234 := fun args w => by go_simp
theorem enters_size1 : enters 237 := fun args w => by go_simp

set_option maxRecDepth 100000 in
set_option maxHeartbeats 4000000 in
theorem read1_any {w : World} {R : Nat → Prop} {b : Nat} {vd vs' : Value} {e' : TypeId} {l : List UInt8} (hfh : w.heap[b]? = some (.cells #[vd, vs'] e' (0, 0))) (hbd : BytesIn w R vd l) (hl : l.length ≤ maxFile)
    {ba bn bo : Nat} {at_ n : Int} (ca : w.cell? ⟨ba, 0, none⟩ = some (.int .i64 at_)) (cn : w.cell? ⟨bn, 0, none⟩ = some (.int .i64 n)) (co : w.cell? ⟨bo, 0, none⟩ = some (.slice none 0 0)) (zo : w.frozen? ⟨bo, 0, none⟩ = false) (h64 : -9223372036854775808 ≤ at_ ∧ at_ < 9223372036854775808) :
    Calls Tryz.prog 234 #[.pointer (some ⟨b, 0, none⟩), .pointer (some ⟨ba, 0, none⟩), .pointer (some ⟨bn, 0, none⟩), .pointer (some ⟨bo, 0, none⟩)] w fun e w' =>
      ∃ v, e = .returned (.int .i64 v) ∧ v = ((readAt l at_ n).2 : Int) ∧ Chg (· = bo) w w' ∧ ∃ U, w'.cell? ⟨bo, 0, none⟩ = some U ∧ BytesIn w' (NewIn w w') U (readAt l at_ n).1 := by
  have hmf : maxFile = 1099511627776 := rfl
  obtain ⟨da, dc, rfl, hdl, hdn, hdr⟩ := hbd.row
  have f0 := cell_of_heap hfh (i := 0) (v := .slice da l.length dc) (by rfl)
  by_cases e1 : at_ < 0
  · have he : readAt l at_ n = ([], 2) := by unfold readAt; rw [if_pos (.inl e1)]
    rw [he]
    clear he
    have g1 : decide (at_ < 0) = true := by simpa using e1
    go_enter Tryz.func234, Tryz.ntmps234
    go_wp2
    go_ret
    exact ⟨_, rfl, rfl, Chg.refl _ _, _, co, BytesIn.nil _ _⟩
  have g1 : decide (at_ < 0) = false := by simpa using e1
  by_cases e2 : n < 0
  · have he : readAt l at_ n = ([], 2) := by unfold readAt; rw [if_pos (.inr e2)]
    rw [he]
    clear he
    have g2 : decide (n < 0) = true := by simpa using e2
    go_enter Tryz.func234, Tryz.ntmps234
    go_wp2
    go_ret
    exact ⟨_, rfl, rfl, Chg.refl _ _, _, co, BytesIn.nil _ _⟩
  have g2 : decide (n < 0) = false := by simpa using e2
  by_cases e3 : (l.length : Int) < at_
  · have he : readAt l at_ n = ([], 4) := by unfold readAt; rw [if_neg (by rintro (h | h); exact e1 h; exact e2 h), if_pos e3]
    rw [he]
    clear he
    have g3 : decide ((l.length : Int) < at_) = true := by simpa using e3
    generalize l.length = ll at *
    go_enter Tryz.func234, Tryz.ntmps234
    go_wp2
    go_quiet (fail)
    have hcn := (Chg.refl (· = bo) w).drewN nq
    have co' : (w.drewN nq).cell? ⟨bo, 0, none⟩ = some (.slice none 0 0) := co
    go_wp2
    go_ret
    exact ⟨_, rfl, rfl, hcn, _, co', BytesIn.nil _ _⟩
  have g3 : decide ((l.length : Int) < at_) = false := by simpa using e3
  obtain ⟨q, rfl⟩ : ∃ q : Nat, at_ = (q : Int) := ⟨at_.toNat, by omega⟩
  obtain ⟨m, rfl⟩ : ∃ m : Nat, n = (m : Int) := ⟨n.toNat, by omega⟩
  have he : readAt l q m = ((l.drop q).take m, 0) := by unfold readAt; rw [if_neg (by rintro (h | h); exact e1 h; exact e2 h), if_neg e3]; simp
  rw [he]
  clear he
  have hql : q ≤ l.length := by omega
  have hsl1 := run_slice_lo (P := Tryz.prog) 26 5 Tryz.underlying26 Tryz.sizeOf5 da l.length dc q hql
  have hrow2 : RowAt w (subAt da dc q) ((l.drop q).map bv) := by rw [List.map_drop]; exact hdr.drop dc q (by simpa using hdl)
  have hnil2 : subAt da dc q = none → dc - q = 0 := fun e => by have := hdn (subAt_none.1 e); omega
  have hdln : (l.drop q).length = l.length - q := by simp
  generalize hSA : subAt da dc q = sa at *
  by_cases e4 : m ≤ l.length - q
  · have htk : ((l.drop q).take m).length = m := by simp; omega
    have hsl2 := run_slice_hi (P := Tryz.prog) 26 5 Tryz.underlying26 Tryz.sizeOf5 sa (l.length - q) (dc - q) m (by omega)
    have hC := clone_any sa (dc - q) ((l.drop q).take m)
    rw [htk] at hC
    have hrow3 : RowAt w sa (((l.drop q).take m).map bv) := by rw [List.map_take]; exact hrow2.take m
    have HC := Lib.hid hC; clear hC
    have hm1 : (m : Int) ≤ ((l.length - q : Nat) : Int) := by omega
    have hcast : ((l.length - q : Nat) : Int) = (l.length : Int) - (q : Int) := by omega
    go_enter Tryz.func234, Tryz.ntmps234
    go_wp2
    go_quiet (fail)
    have hb3 : Below w.heap.size w (w.drewN nq) := below_drewN (Below.refl _ _) nq
    have cn3 := (hb3.cell (p := ⟨bn, 0, none⟩) (cell_lt cn)).trans cn
    have ca3 := (hb3.cell (p := ⟨ba, 0, none⟩) (cell_lt ca)).trans ca
    have f03 := (hb3.cell (p := ⟨b, 0, none⟩) (cell_lt f0)).trans f0
    generalize w.drewN nq = w3 at *
    go_wp2
    go_quiet (fail)
    have hb4 : Below w.heap.size w (w3.drewN nq) := below_drewN hb3 nq
    clear cn3 ca3 f03
    generalize w3.drewN nq = w4 at *
    have cn4 := (hb4.cell (p := ⟨bn, 0, none⟩) (cell_lt cn)).trans cn
    have co4 := (hb4.cell (p := ⟨bo, 0, none⟩) (cell_lt co)).trans co
    have zo4 := (hb4.frozen (p := ⟨bo, 0, none⟩) (cell_lt co)).trans zo
    have hr4 := hrow3.below hb4
    clear ca cn f0 hsl1
    go_wp2_with fail
    rw [show (min (m : Int) ((l.length : Int) - (q : Int))).toNat = m by omega]
    refine (HC.out w4 hnil2 hr4 (by omega)).mono ?_
    rintro _ w5 ⟨U, rfl, hU5, hb5⟩
    obtain ⟨ua, uc, rfl, _⟩ := hU5.row
    have co5 := (hb5.cell (p := ⟨bo, 0, none⟩) (cell_lt co4)).trans co4
    have zo5 := (hb5.frozen (p := ⟨bo, 0, none⟩) (cell_lt co4)).trans zo4
    have hlt4 : bo < w4.heap.size := cell_lt co4
    obtain ⟨L, hL⟩ : ∃ L, L = (l.drop q).take m := ⟨_, rfl⟩
    rw [← hL] at hU5 ⊢
    have HL := Lib.hid hL
    clear hL HC
    have hc5 : Chg (· = bo) w5 (w5.setCell ⟨bo, 0, none⟩ (.slice ua L.length uc)) := Chg.set _ rfl
    have hs4 := hb4.size
    have hsz : (w5.setCell ⟨bo, 0, none⟩ (.slice ua L.length uc)).heap.size = w5.heap.size := by simp [World.setCell]
    have hUf := hU5.kept hc5 (R' := NewIn w (w5.setCell ⟨bo, 0, none⟩ (.slice ua L.length uc))) (fun y hy => by have := hy.1; show ¬ y = bo; omega) (fun y hy => ⟨by have := hy.1; omega, by have := hy.2; omega⟩)
    have cof : (w5.setCell ⟨bo, 0, none⟩ (.slice ua L.length uc)).cell? ⟨bo, 0, none⟩ = some (.slice ua L.length uc) := by go_simp
    have hcf : Chg (· = bo) w (w5.setCell ⟨bo, 0, none⟩ (.slice ua L.length uc)) := ((Chg.of_below hb4).trans (Chg.of_below (O := (· = bo)) hb5) (fun _ h _ => h)).trans hc5 (fun _ h _ => h)
    clear hb4 hb5 hU5 hc5 hr4 hsz
    go_wp2
    go_ret
    exact ⟨_, rfl, rfl, hcf, _, cof, by rw [← HL.out]; exact hUf⟩
  · have htk : (l.drop q).take m = l.drop q := List.take_of_length_le (by omega)
    rw [htk]
    have hsl2 := run_slice_hi (P := Tryz.prog) 26 5 Tryz.underlying26 Tryz.sizeOf5 sa (l.length - q) (dc - q) (l.length - q) (by omega)
    have hC := clone_any sa (dc - q) (l.drop q)
    rw [hdln] at hC
    have hrow3 := hrow2
    have HC := Lib.hid hC; clear hC
    have hcast : ((l.length - q : Nat) : Int) = (l.length : Int) - (q : Int) := by omega
    go_enter Tryz.func234, Tryz.ntmps234
    go_wp2
    go_quiet (fail)
    have hb3 : Below w.heap.size w (w.drewN nq) := below_drewN (Below.refl _ _) nq
    have cn3 := (hb3.cell (p := ⟨bn, 0, none⟩) (cell_lt cn)).trans cn
    have ca3 := (hb3.cell (p := ⟨ba, 0, none⟩) (cell_lt ca)).trans ca
    have f03 := (hb3.cell (p := ⟨b, 0, none⟩) (cell_lt f0)).trans f0
    generalize w.drewN nq = w3 at *
    go_wp2
    go_quiet (fail)
    have hb4 : Below w.heap.size w (w3.drewN nq) := below_drewN hb3 nq
    clear cn3 ca3 f03
    generalize w3.drewN nq = w4 at *
    have cn4 := (hb4.cell (p := ⟨bn, 0, none⟩) (cell_lt cn)).trans cn
    have co4 := (hb4.cell (p := ⟨bo, 0, none⟩) (cell_lt co)).trans co
    have zo4 := (hb4.frozen (p := ⟨bo, 0, none⟩) (cell_lt co)).trans zo
    have hr4 := hrow3.below hb4
    clear ca cn f0 hsl1
    go_wp2_with fail
    rw [show (min (m : Int) ((l.length : Int) - (q : Int))).toNat = l.length - q by omega]
    refine (HC.out w4 hnil2 hr4 (by omega)).mono ?_
    rintro _ w5 ⟨U, rfl, hU5, hb5⟩
    obtain ⟨ua, uc, rfl, _⟩ := hU5.row
    have co5 := (hb5.cell (p := ⟨bo, 0, none⟩) (cell_lt co4)).trans co4
    have zo5 := (hb5.frozen (p := ⟨bo, 0, none⟩) (cell_lt co4)).trans zo4
    have hlt4 : bo < w4.heap.size := cell_lt co4
    obtain ⟨L, hL⟩ : ∃ L, L = l.drop q := ⟨_, rfl⟩
    rw [← hL] at hU5 ⊢
    have HL := Lib.hid hL
    clear hL HC
    have hc5 : Chg (· = bo) w5 (w5.setCell ⟨bo, 0, none⟩ (.slice ua L.length uc)) := Chg.set _ rfl
    have hs4 := hb4.size
    have hsz : (w5.setCell ⟨bo, 0, none⟩ (.slice ua L.length uc)).heap.size = w5.heap.size := by simp [World.setCell]
    have hUf := hU5.kept hc5 (R' := NewIn w (w5.setCell ⟨bo, 0, none⟩ (.slice ua L.length uc))) (fun y hy => by have := hy.1; show ¬ y = bo; omega) (fun y hy => ⟨by have := hy.1; omega, by have := hy.2; omega⟩)
    have cof : (w5.setCell ⟨bo, 0, none⟩ (.slice ua L.length uc)).cell? ⟨bo, 0, none⟩ = some (.slice ua L.length uc) := by go_simp
    have hcf : Chg (· = bo) w (w5.setCell ⟨bo, 0, none⟩ (.slice ua L.length uc)) := ((Chg.of_below hb4).trans (Chg.of_below (O := (· = bo)) hb5) (fun _ h _ => h)).trans hc5 (fun _ h _ => h)
    clear hb4 hb5 hU5 hc5 hr4 hsz
    go_wp2
    go_ret
    exact ⟨_, rfl, rfl, hcf, _, cof, by rw [← HL.out]; exact hUf⟩

set_option maxRecDepth 100000 in
set_option maxHeartbeats 4000000 in
theorem Read_any {w : World} {p : Nat} {s : DSt} {R : Nat → Prop} {mf mn ms : Nat} {fb : List Nat} {vs vw : Value} {ss : List Value} {ws : List (List Value)} {e : TypeId} (h : DiskP w p s R mf mn ms fb vs vw ss ws e)
    {k : List UInt8} (hk : k.length ≤ maxLen) {N : Nat} (hok : s.Ok N) (hN : N < maxList) {at_ n : Int} (h64 : -9223372036854775808 ≤ at_ ∧ at_ < 9223372036854775808) :
    Calls Tryz.prog 222 #[.pointer (some ⟨p, 0, none⟩), .string ⟨k.toArray⟩, .int .i64 at_, .int .i64 n] w fun e w' => ∃ U, e = .returned (.tuple #[U, .int .i64 ((s.read k at_ n).2 : Int)]) ∧ BytesIn w' (NewIn w w') U (s.read k at_ n).1 ∧ Below w.heap.size w w' := by
  obtain ⟨w3, hw3⟩ : ∃ w3, ((w.alloc (.cells #[.int .i64 at_] 2)).alloc (.cells #[.int .i64 n] 3)).alloc (.cells #[.slice none 0 0] 26) = w3 := ⟨_, rfl⟩
  have hb3 : Below w.heap.size w w3 := by rw [← hw3]; exact ((below_alloc w _).alloc (by simp) _).alloc (by simp; omega) _
  have hz3 : w3.heap.size = w.heap.size + 1 + 1 + 1 := by rw [← hw3]; simp
  have hca : Boxed w3 w.heap.size 2 (.int .i64 at_) := by rw [← hw3]; exact ((Boxed.new _ _ _).alloc _).alloc _
  have hcn : Boxed w3 (w.heap.size + 1) 3 (.int .i64 n) := by rw [← hw3]; have := (Boxed.new (w.alloc (.cells #[.int .i64 at_] 2)) 3 (.int .i64 n)).alloc (.cells #[.slice none 0 0] 26); rwa [World.size_alloc] at this
  have hco : Boxed w3 (w.heap.size + 1 + 1) 26 (.slice none 0 0) := by rw [← hw3]; have := Boxed.new ((w.alloc (.cells #[.int .i64 at_] 2)).alloc (.cells #[.int .i64 n] 3)) 26 (.slice none 0 0); rwa [World.size_alloc, World.size_alloc] at this
  have h3 := h.below hb3
  have hmx : maxList = 4194304 := rfl
  cases hf : nlFind s.names k with
  | none =>
    have he : s.read k at_ n = ([], 7) := by unfold DSt.read; rw [hf]
    rw [he]
    have hlk := fun f => look_none h3 hk hf f
    have hco1 := hco.cell
    clear he
    have HZ := Lib.hid hz3; clear hz3
    go_enter Tryz.func222, Tryz.ntmps222
    go_wp2_with (go_at_call 233; refine (hlk _).mono ?_; rintro e1 w4 ⟨rfl, rfl⟩)
    go_ret2
    exact ⟨_, rfl, BytesIn.nil _ _, hb3⟩
  | some f =>
    rw [read_some hf]
    have hn := (hok.names _ (nlFind_mem hf)).1
    have hnn : f ≤ 4194304 := by have := hok.manyFiles; omega
    obtain ⟨b, e', vd, vs', hfb, hfh, hbd, _, _⟩ := h3.file_at (n := f) hn (by omega)
    have hr := read1_any hfh hbd (hok.stands_le f) hca.cell hcn.cell hco.cell hco.frozen h64
    have hlk := look_some h3 hk hf hfb (by omega) 234 #[.pointer (some ⟨w.heap.size, 0, none⟩), .pointer (some ⟨w.heap.size + 1, 0, none⟩), .pointer (some ⟨w.heap.size + 1 + 1, 0, none⟩)] enters_read1 (fun v w' => v = ((readAt (s.stands f) at_ n).2 : Int) ∧ Chg (· = w.heap.size + 1 + 1) w3 w' ∧ ∃ U, w'.cell? ⟨w.heap.size + 1 + 1, 0, none⟩ = some U ∧ BytesIn w' (NewIn w3 w') U (readAt (s.stands f) at_ n).1) hr
    clear hr hfh hbd
    have HZ := Lib.hid hz3; clear hz3
    go_enter Tryz.func222, Tryz.ntmps222
    go_wp2_with (go_at_call 233; refine hlk.mono ?_; rintro e1 w4 ⟨v, rfl, rfl, hc4, U, hU, hb4⟩; obtain ⟨ua, uc, rfl, _⟩ := hb4.row)
    go_ret2
    have hs := hb3.size
    exact ⟨_, rfl, hb4.mono (fun y hy => ⟨Nat.le_trans hs hy.1, hy.2⟩), hb3.trans ⟨hc4.os, hc4.tape, hc4.output, hc4.size, fun y hy => hc4.block y (by omega) (by omega)⟩⟩

end Go.Proofs.YtlmdpcaikhdenaaGreat
/- Disk: Size, Steps, Capacity, Pending, Room, Names. -/
namespace Go.Proofs.YtlmdpcaikhdenaaGreat
open Go.RowKit Go.Maps Go.Shelf

section
variable {w : World} {p : Nat} {s : DSt} {R : Nat → Prop} {mf mn ms : Nat} {fb : List Nat} {vs vw : Value} {ss : List Value} {ws : List (List Value)} {e : TypeId}

set_option maxRecDepth 100000 in
set_option maxHeartbeats 2000000 in
theorem Size_any (h : DiskP w p s R mf mn ms fb vs vw ss ws e) {k : List UInt8} (hk : k.length ≤ maxLen) {N : Nat} (hok : s.Ok N) (hN : N < maxList) :
    Calls Tryz.prog 224 #[.pointer (some ⟨p, 0, none⟩), .string ⟨k.toArray⟩] w fun e w' => e = .returned (.tuple #[.int .i64 ((s.size k).1 : Int), .int .i64 ((s.size k).2 : Int)]) ∧ Below w.heap.size w w' := by
  obtain ⟨w3, hw3⟩ : ∃ w3, w.alloc (.cells #[.int .i64 0] 2) = w3 := ⟨_, rfl⟩
  have hb3 : Below w.heap.size w w3 := by rw [← hw3]; exact below_alloc w _
  have hz3 : w3.heap.size = w.heap.size + 1 := by rw [← hw3]; simp
  have hca : Boxed w3 w.heap.size 2 (.int .i64 0) := by rw [← hw3]; exact Boxed.new _ _ _
  have h3 := h.below hb3
  have hmx : maxList = 4194304 := rfl
  have hco1 := hca.cell
  have HW3 := Lib.hid hw3; clear hw3
  cases hf : nlFind s.names k with
  | none =>
    have he : s.size k = (0, 7) := by unfold DSt.size; rw [hf]
    rw [he]
    have hlk := fun f => look_none h3 hk hf f
    clear he
    have HZ := Lib.hid hz3; clear hz3
    go_enter Tryz.func224, Tryz.ntmps224
    go_wp2_with fail
    rw [HW3.out]
    refine (hlk _).mono ?_
    rintro e1 w4 ⟨rfl, rfl⟩
    go_wp2
    go_ret2
    exact ⟨rfl, hb3⟩
  | some f =>
    have he : s.size k = ((s.stands f).length, 0) := by unfold DSt.size; rw [hf]
    rw [he]
    have hn := (hok.names _ (nlFind_mem hf)).1
    have hnn : f ≤ 4194304 := by have := hok.manyFiles; omega
    obtain ⟨b, e', vd, vs', hfb, hfh, hbd, _, _⟩ := h3.file_at (n := f) hn (by omega)
    obtain ⟨da, dc, rfl, _, _, _⟩ := hbd.row
    have hr : Calls Tryz.prog 237 #[.pointer (some ⟨b, 0, none⟩), .pointer (some ⟨w.heap.size, 0, none⟩)] w3 fun e w' => ∃ v, e = .returned (.int .i64 v) ∧ v = 0 ∧ w' = w3.setCell ⟨w.heap.size, 0, none⟩ (.int .i64 ((s.stands f).length : Int)) := by
      have f0 := cell_of_heap hfh (i := 0) (v := .slice da (s.stands f).length dc) (by rfl)
      have z0 := hca.frozen
      go_enter Tryz.func237, Tryz.ntmps237
      go_wp2
      go_ret
      exact ⟨_, rfl, rfl, rfl⟩
    have hlk := look_some h3 hk hf hfb (by omega) 237 #[.pointer (some ⟨w.heap.size, 0, none⟩)] enters_size1 (fun v w' => v = 0 ∧ w' = w3.setCell ⟨w.heap.size, 0, none⟩ (.int .i64 ((s.stands f).length : Int))) hr
    have hset := Boxed.set (.int .i64 ((s.stands f).length : Int)) hca
    have hcs := hset.cell
    have hcc := hb3.setCell (p := ⟨w.heap.size, 0, none⟩) (Nat.le_refl _) (.int .i64 ((s.stands f).length : Int))
    clear hr hfh hbd he
    have HZ := Lib.hid hz3; clear hz3
    go_enter Tryz.func224, Tryz.ntmps224
    go_wp2_with fail
    rw [HW3.out]
    refine hlk.mono ?_
    rintro e1 w4 ⟨v, rfl, rfl, rfl⟩
    go_wp2
    go_ret2
    exact ⟨rfl, hcc⟩

end

end Go.Proofs.YtlmdpcaikhdenaaGreat
