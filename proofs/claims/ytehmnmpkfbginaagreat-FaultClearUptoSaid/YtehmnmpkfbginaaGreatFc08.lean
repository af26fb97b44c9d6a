/- Texts of this claim, one behind the other: DkG, DkH, DkI. -/
import Derived.Test.YtehmnmpkfbginaaGreatFc07
import Derived.Test.YtehmnmpkfbginaaGreatShelf
set_option linter.unusedSimpArgs false
set_option linter.unusedVariables false
/- Disk: Cut. -/
namespace Go.Proofs.YtehmnmpkfbginaaGreat
open Go.RowKit Go.Maps

/-- Cut, once the file is found -/
def DSt.cutAt (s : DSt) (f : Nat) (size : Int) : DSt × Nat :=
  if size < 0 ∨ ((s.stands f).length : Int) < size then (s, 2) else (s.written ⟨f, true, size.toNat, []⟩, 0)
theorem cut_some {s : DSt} {k : List UInt8} {f : Nat} (hf : nlFind s.names k = some f) (size : Int) : s.cut k size = s.tick.cutAt f size := by
  unfold DSt.cut
  rw [hf]
  simp only []
  unfold DSt.cutAt
  have e1 : s.tick.stands f = s.stands f := rfl
  rw [e1]
  split <;> rfl
theorem enters_cut1 : enters 106 := fun args w => by go_simp

set_option maxRecDepth 100000 in
set_option maxHeartbeats 4000000 in
theorem cut1_any {w0 w : World} {p : Nat} {s : DSt} {R : Nat → Prop} {mf mn ms : Nat} {fb : List Nat} {vs vw : Value} {ss : List Value} {ws : List (List Value)} {e : TypeId} (h : DiskP w p s R mf mn ms fb vs vw ss ws e)
    (hc : Chg (· ∈ ownL p mf mn vs vw fb) w0 w) (hR : ∀ b, R b → b < w0.heap.size ∧ b ∉ ownL p mf mn vs vw fb) (hown : ∀ b ∈ ownL p mf mn vs vw fb, b < w0.heap.size) {N : Nat} (hok : s.Ok N) (hN : N < maxList) {n : Nat} {k : List UInt8} (hf : nlFind s.names k = some n)
    {bd ba : Nat} {size : Int} (cd : w.cell? ⟨bd, 0, none⟩ = some (.pointer (some ⟨p, 0, none⟩))) (ca : w.cell? ⟨ba, 0, none⟩ = some (.int .i64 size)) (ha0 : w0.heap.size ≤ ba) (h64 : -9223372036854775808 ≤ size ∧ size < 9223372036854775808) :
    Calls Tryz.prog 106 #[.int .i64 (n : Int), .pointer (some ⟨ba, 0, none⟩), .pointer (some ⟨bd, 0, none⟩)] w fun e w' => ∃ v, e = .returned (.int .i64 v) ∧ v = ((s.cutAt n size).2 : Int) ∧ Turns w0 w' p (s.cutAt n size).1 (ownL p mf mn vs vw fb) R := by
  have hmx : maxList = 4194304 := rfl
  have hmf : maxFile = 1099511627776 := rfl
  have hn := (hok.names _ (nlFind_mem hf)).1
  have hnn : n ≤ 4194304 := by have := hok.manyFiles; omega
  obtain ⟨b, e', vd, vs', hfb, hfh, hbd', hbs, hlk⟩ := h.file_at (n := n) hn (by omega)
  obtain ⟨da, dc, rfl, _, _, _⟩ := hbd'.row
  have c1 := cell_of_heap h.cells (i := 1) (v := .map (some mf)) (by rfl)
  have f0 := cell_of_heap hfh (i := 0) (v := .slice da (s.stands n).length dc) (by rfl)
  have hst := hok.stands_le n
  have hT := fun nq => (h.turnsSince hc hR).drewN nq
  by_cases e1 : size < 0
  · have he : s.cutAt n size = (s, 2) := by unfold DSt.cutAt; rw [if_pos (.inl e1)]
    rw [he]
    clear he
    have g1 : decide (size < 0) = true := by simpa using e1
    generalize (s.stands n).length = dl at *
    go_enter Tryz.func106, Tryz.ntmps106
    go_wp2
    go_quiet (fail)
    go_wp2
    go_ret
    exact ⟨_, rfl, rfl, hT _⟩
  · have g1 : decide (size < 0) = false := by simpa using e1
    by_cases e2 : ((s.stands n).length : Int) < size
    · have he : s.cutAt n size = (s, 2) := by unfold DSt.cutAt; rw [if_pos (.inr e2)]
      rw [he]
      clear he
      have g2 : decide (((s.stands n).length : Int) < size) = true := by simpa using e2
      generalize (s.stands n).length = dl at *
      go_enter Tryz.func106, Tryz.ntmps106
      go_wp2
      go_quiet (fail)
      go_wp2
      go_ret
      exact ⟨_, rfl, rfl, hT _⟩
    · have g2 : decide (((s.stands n).length : Int) < size) = false := by simpa using e2
      obtain ⟨q, rfl⟩ : ∃ q : Nat, size = (q : Int) := ⟨size.toNat, by omega⟩
      have he : s.cutAt n q = (s.written ⟨n, true, q, []⟩, 0) := by unfold DSt.cutAt; rw [if_neg (by rintro (h | h); exact e1 h; exact e2 h)]; simp
      rw [he]
      clear he
      have HQ : q ≤ maxFile := by omega
      generalize hS : (s.stands n).length = dl at *
      go_enter Tryz.func106, Tryz.ntmps106
      go_wp2
      go_quiet (fail)
      have hb4 : Below w.heap.size w (w.drewN nq) := below_drewN (Below.refl _ _) nq
      have h4 := h.below hb4
      have hc04 := hc.trans (Chg.of_below (O := (· ∈ ownL p mf mn vs vw fb)) hb4) (fun _ h _ => h)
      have cd4 := (hb4.cell (p := ⟨bd, 0, none⟩) (cell_lt cd)).trans cd
      have ca4 := (hb4.cell (p := ⟨ba, 0, none⟩) (cell_lt ca)).trans ca
      generalize w.drewN nq = w4 at *
      clear c1 f0 hlk
      have hlay : LayIn w4 (RNew R w0 w4 (ownL p mf mn vs vw fb)) (.func (.func 108) #[] #[.pointer (some ⟨ba, 0, none⟩)]) ⟨n, true, q, []⟩ :=
        ⟨_, rfl, ⟨_, rfl, .inr ⟨ha0, cell_lt ca4, fun hm => by have := hown _ hm; omega⟩, ca4⟩⟩
      have hwr := written_any (h4.since hc04 hR) (x := ⟨n, true, q, []⟩) hlay hok hN hn HQ
      go_wp2_with (go_at_call 107; refine hwr.mono ?_; rintro _ w7 ⟨rfl, hT7⟩)
      go_ret
      exact ⟨_, rfl, rfl, Turns.after hc04 hR hT7⟩

set_option maxRecDepth 100000 in
set_option maxHeartbeats 4000000 in
theorem Cut_any {w : World} {p : Nat} {s : DSt} {R : Nat → Prop} {mf mn ms : Nat} {fb : List Nat} {vs vw : Value} {ss : List Value} {ws : List (List Value)} {e : TypeId} (h : DiskP w p s R mf mn ms fb vs vw ss ws e)
    {k : List UInt8} (hk : k.length ≤ maxLen) {N : Nat} (hok : s.Ok N) (hN : N + 1 < maxList) {size : Int} (h64 : -9223372036854775808 ≤ size ∧ size < 9223372036854775808) :
    Calls Tryz.prog 96 #[.pointer (some ⟨p, 0, none⟩), .string ⟨k.toArray⟩, .int .i64 size] w fun e w' => e = .returned (.int .i64 ((s.cut k size).2 : Int)) ∧ Turns w w' p (s.cut k size).1 (ownL p mf mn vs vw fb) R := by
  obtain ⟨w3, hw3⟩ : ∃ w3, (w.alloc (.cells #[.pointer (some ⟨p, 0, none⟩)] 31)).alloc (.cells #[.int .i64 size] 2) = w3 := ⟨_, rfl⟩
  have hb3 : Below w.heap.size w w3 := by rw [← hw3]; exact (below_alloc w _).alloc (by simp) _
  have hz3 : w3.heap.size = w.heap.size + 1 + 1 := by rw [← hw3]; simp
  have hcd : Boxed w3 w.heap.size 31 (.pointer (some ⟨p, 0, none⟩)) := by rw [← hw3]; exact (Boxed.new _ _ _).alloc _
  have hca : Boxed w3 (w.heap.size + 1) 2 (.int .i64 size) := by rw [← hw3]; have := Boxed.new (w.alloc (.cells #[.pointer (some ⟨p, 0, none⟩)] 31)) 2 (.int .i64 size); rwa [World.size_alloc] at this
  have h3 := h.below hb3
  have hd := hok.done
  have hmx : maxList = 4194304 := rfl
  have hplt := heap_lt h.cells
  have hc4 : Chg (· ∈ ownL p mf mn vs vw fb) w (w3.setCell ⟨p, 6, none⟩ (.int .i64 ((s.done + 1 : Nat) : Int))) := (Chg.of_below hb3).trans (Chg.set _ mem_own_p) (fun _ h _ => h)
  have hcs : Chg (· = p) w3 (w3.setCell ⟨p, 6, none⟩ (.int .i64 ((s.done + 1 : Nat) : Int))) := Chg.set _ rfl
  have hcd1 := hcd.cell
  cases hf : nlFind s.names k with
  | none =>
    have he : s.cut k size = (s.tick, 7) := by unfold DSt.cut; rw [hf]
    rw [he]
    have hst := fun f => step_none h3 hk hf (by omega) f
    have hT := h3.tick.turnsSince hc4 h.hR
    clear he
    have HZ := Lib.hid hz3; clear hz3
    go_enter Tryz.func96, Tryz.ntmps96
    go_wp2_with fail
    refine (hst _).mono ?_
    rintro _ w4 ⟨rfl, rfl⟩
    go_wp2
    go_ret
    exact ⟨rfl, hT⟩
  | some n =>
    rw [cut_some hf]
    have hne0 : ¬ w.heap.size = p := by omega
    have hne1 : ¬ w.heap.size + 1 = p := by omega
    have hw1 := cut1_any h3.tick hc4 h.hR (fun b hb => h.lt hb) hok.ticked hN (k := k) hf (hcs.cell hcd.cell hne0) (hcs.cell hca.cell hne1) (Nat.le_succ _) h64
    have hst := step_some h3 hk hf (by omega) 106 #[.pointer (some ⟨w.heap.size + 1, 0, none⟩), .pointer (some ⟨w.heap.size, 0, none⟩)] enters_cut1 (fun v w' => v = ((s.tick.cutAt n size).2 : Int) ∧ Turns w w' p (s.tick.cutAt n size).1 (ownL p mf mn vs vw fb) R) hw1
    have HZ := Lib.hid hz3; clear hz3
    go_enter Tryz.func96, Tryz.ntmps96
    go_wp2_with fail
    refine hst.mono ?_
    rintro _ w4 ⟨v, rfl, rfl, hT⟩
    go_wp2
    go_ret
    exact ⟨rfl, hT⟩

end Go.Proofs.YtehmnmpkfbginaaGreat
/- Disk: Remove, Rename. -/
namespace Go.Proofs.YtehmnmpkfbginaaGreat
open Go.RowKit Go.Maps

theorem remove_some {s : DSt} {k : List UInt8} {n : Nat} (hf : nlFind s.names k = some n) : s.remove k = (s.tick.named (.remove k), 0) := by unfold DSt.remove; rw [hf]; rfl
theorem rename_some {s : DSt} {k t : List UInt8} {n : Nat} (ht : nameOk t = true) (hf : nlFind s.names k = some n) : s.rename k t = (s.tick.named (.rename k t), 0) := by unfold DSt.rename; rw [ht, hf]; rfl
theorem enters_remove1 : enters 111 := fun args w => by go_simp
theorem enters_rename1 : enters 113 := fun args w => by go_simp

set_option maxRecDepth 100000 in
set_option maxHeartbeats 4000000 in
theorem remove1_any {w0 w : World} {p : Nat} {s : DSt} {R : Nat → Prop} {mf mn ms : Nat} {fb : List Nat} {vs vw : Value} {ss : List Value} {ws : List (List Value)} {e : TypeId} (h : DiskP w p s R mf mn ms fb vs vw ss ws e)
    (hc : Chg (· ∈ ownL p mf mn vs vw fb) w0 w) (hR : ∀ b, R b → b < w0.heap.size ∧ b ∉ ownL p mf mn vs vw fb) (hown : ∀ b ∈ ownL p mf mn vs vw fb, b < w0.heap.size) {N : Nat} (hok : s.Ok N) (hN : N < maxList) {n : Nat} {k : List UInt8} (hk : k.length ≤ maxLen)
    {bd bk : Nat} (cd : w.cell? ⟨bd, 0, none⟩ = some (.pointer (some ⟨p, 0, none⟩))) (ck : w.cell? ⟨bk, 0, none⟩ = some (.string ⟨k.toArray⟩)) (hk0 : w0.heap.size ≤ bk) :
    Calls Tryz.prog 111 #[.int .i64 (n : Int), .pointer (some ⟨bd, 0, none⟩), .pointer (some ⟨bk, 0, none⟩)] w fun e w' => ∃ v, e = .returned (.int .i64 v) ∧ v = 0 ∧ Turns w0 w' p (s.named (.remove k)) (ownL p mf mn vs vw fb) R := by
  have hmx : maxList = 4194304 := rfl
  have hD := h.since hc hR
  have hst : StepIn w (RNew R w0 w (ownL p mf mn vs vw fb)) (.func (.func 112) #[] #[.pointer (some ⟨bk, 0, none⟩)]) (.remove k) :=
    ⟨_, rfl, ⟨_, rfl, .inr ⟨hk0, cell_lt ck, fun hm => by have := hown _ hm; omega⟩, ck⟩⟩
  have hms := hok.manySteps
  have hcr := named_any hD hst (remove_does hst (b := mn) hD.namesM hk) (by omega)
  go_enter Tryz.func111, Tryz.ntmps111
  go_wp2_with (go_at_call 103; refine hcr.mono ?_; rintro _ w6 ⟨rfl, hT6⟩)
  go_ret
  exact ⟨_, rfl, rfl, Turns.after hc hR hT6⟩

set_option maxRecDepth 100000 in
set_option maxHeartbeats 4000000 in
theorem Remove_any {w : World} {p : Nat} {s : DSt} {R : Nat → Prop} {mf mn ms : Nat} {fb : List Nat} {vs vw : Value} {ss : List Value} {ws : List (List Value)} {e : TypeId} (h : DiskP w p s R mf mn ms fb vs vw ss ws e)
    {k : List UInt8} (hk : k.length ≤ maxLen) {N : Nat} (hok : s.Ok N) (hN : N + 1 < maxList) :
    Calls Tryz.prog 98 #[.pointer (some ⟨p, 0, none⟩), .string ⟨k.toArray⟩] w fun e w' => e = .returned (.int .i64 ((s.remove k).2 : Int)) ∧ Turns w w' p (s.remove k).1 (ownL p mf mn vs vw fb) R := by
  obtain ⟨w3, hw3⟩ : ∃ w3, (w.alloc (.cells #[.pointer (some ⟨p, 0, none⟩)] 31)).alloc (.cells #[.string ⟨k.toArray⟩] 9) = w3 := ⟨_, rfl⟩
  have hb3 : Below w.heap.size w w3 := by rw [← hw3]; exact (below_alloc w _).alloc (by simp) _
  have hz3 : w3.heap.size = w.heap.size + 1 + 1 := by rw [← hw3]; simp
  have hcd : Boxed w3 w.heap.size 31 (.pointer (some ⟨p, 0, none⟩)) := by rw [← hw3]; exact (Boxed.new _ _ _).alloc _
  have hck : Boxed w3 (w.heap.size + 1) 9 (.string ⟨k.toArray⟩) := by rw [← hw3]; have := Boxed.new (w.alloc (.cells #[.pointer (some ⟨p, 0, none⟩)] 31)) 9 (.string ⟨k.toArray⟩); rwa [World.size_alloc] at this
  have h3 := h.below hb3
  have hd := hok.done
  have hmx : maxList = 4194304 := rfl
  have hplt := heap_lt h.cells
  have hc4 : Chg (· ∈ ownL p mf mn vs vw fb) w (w3.setCell ⟨p, 6, none⟩ (.int .i64 ((s.done + 1 : Nat) : Int))) := (Chg.of_below hb3).trans (Chg.set _ mem_own_p) (fun _ h _ => h)
  have hcs : Chg (· = p) w3 (w3.setCell ⟨p, 6, none⟩ (.int .i64 ((s.done + 1 : Nat) : Int))) := Chg.set _ rfl
  have hcd1 := hcd.cell
  have hck1 := hck.cell
  cases hf : nlFind s.names k with
  | none =>
    have he : s.remove k = (s.tick, 7) := by unfold DSt.remove; rw [hf]
    rw [he]
    have hst := fun f => step_none h3 hk hf (by omega) f
    have hT := h3.tick.turnsSince hc4 h.hR
    clear he
    have HZ := Lib.hid hz3; clear hz3
    go_enter Tryz.func98, Tryz.ntmps98
    go_wp2_with fail
    refine (hst _).mono ?_
    rintro _ w4 ⟨rfl, rfl⟩
    go_wp2
    go_ret
    exact ⟨rfl, hT⟩
  | some n =>
    rw [remove_some hf]
    have hne0 : ¬ w.heap.size = p := by omega
    have hne1 : ¬ w.heap.size + 1 = p := by omega
    have hw1 := remove1_any h3.tick hc4 h.hR (fun b hb => h.lt hb) hok.ticked hN (n := n) (k := k) hk (hcs.cell hcd.cell hne0) (hcs.cell hck.cell hne1) (Nat.le_succ _)
    have hst := step_some h3 hk hf (by omega) 111 #[.pointer (some ⟨w.heap.size, 0, none⟩), .pointer (some ⟨w.heap.size + 1, 0, none⟩)] enters_remove1 (fun v w' => v = 0 ∧ Turns w w' p (s.tick.named (.remove k)) (ownL p mf mn vs vw fb) R) hw1
    have HZ := Lib.hid hz3; clear hz3
    go_enter Tryz.func98, Tryz.ntmps98
    go_wp2_with fail
    refine hst.mono ?_
    rintro _ w4 ⟨v, rfl, rfl, hT⟩
    go_wp2
    go_ret
    exact ⟨rfl, hT⟩

set_option maxRecDepth 100000 in
set_option maxHeartbeats 4000000 in
theorem rename1_any {w0 w : World} {p : Nat} {s : DSt} {R : Nat → Prop} {mf mn ms : Nat} {fb : List Nat} {vs vw : Value} {ss : List Value} {ws : List (List Value)} {e : TypeId} (h : DiskP w p s R mf mn ms fb vs vw ss ws e)
    (hc : Chg (· ∈ ownL p mf mn vs vw fb) w0 w) (hR : ∀ b, R b → b < w0.heap.size ∧ b ∉ ownL p mf mn vs vw fb) (hown : ∀ b ∈ ownL p mf mn vs vw fb, b < w0.heap.size) {N : Nat} (hok : s.Ok N) (hN : N < maxList) {n : Nat} {k t : List UInt8} (hk : k.length ≤ maxLen) (ht : t.length ≤ maxLen)
    {bd bk bt : Nat} (cd : w.cell? ⟨bd, 0, none⟩ = some (.pointer (some ⟨p, 0, none⟩))) (ck : w.cell? ⟨bk, 0, none⟩ = some (.string ⟨k.toArray⟩)) (ct : w.cell? ⟨bt, 0, none⟩ = some (.string ⟨t.toArray⟩)) (hk0 : w0.heap.size ≤ bk) (ht0 : w0.heap.size ≤ bt) :
    Calls Tryz.prog 113 #[.int .i64 (n : Int), .pointer (some ⟨bd, 0, none⟩), .pointer (some ⟨bk, 0, none⟩), .pointer (some ⟨bt, 0, none⟩)] w fun e w' => ∃ v, e = .returned (.int .i64 v) ∧ v = 0 ∧ Turns w0 w' p (s.named (.rename k t)) (ownL p mf mn vs vw fb) R := by
  have hmx : maxList = 4194304 := rfl
  have hmax : maxLen = 9223372036854775807 := rfl
  have hD := h.since hc hR
  have hst : StepIn w (RNew R w0 w (ownL p mf mn vs vw fb)) (.func (.func 114) #[] #[.pointer (some ⟨bk, 0, none⟩), .pointer (some ⟨bt, 0, none⟩)]) (.rename k t) :=
    ⟨_, _, rfl, ⟨_, rfl, .inr ⟨hk0, cell_lt ck, fun hm => by have := hown _ hm; omega⟩, ck⟩, ⟨_, rfl, .inr ⟨ht0, cell_lt ct, fun hm => by have := hown _ hm; omega⟩, ct⟩⟩
  have hms := hok.manySteps
  have hmn := hok.manyNames
  have hmf := hok.manyFiles
  have hcr := named_any hD hst (rename_does hst (b := mn) (hD.own _ mem_own_mn).2 hD.namesM hk ht (by omega) (fun q hq => by have := (hok.names q hq).1; omega)) (by omega)
  go_enter Tryz.func113, Tryz.ntmps113
  go_wp2_with (go_at_call 103; refine hcr.mono ?_; rintro _ w6 ⟨rfl, hT6⟩)
  go_ret
  exact ⟨_, rfl, rfl, Turns.after hc hR hT6⟩

set_option maxRecDepth 100000 in
set_option maxHeartbeats 4000000 in
theorem Rename_any {w : World} {p : Nat} {s : DSt} {R : Nat → Prop} {mf mn ms : Nat} {fb : List Nat} {vs vw : Value} {ss : List Value} {ws : List (List Value)} {e : TypeId} (h : DiskP w p s R mf mn ms fb vs vw ss ws e)
    {k t : List UInt8} (hk : k.length ≤ maxLen) (ht : t.length ≤ maxLen) {N : Nat} (hok : s.Ok N) (hN : N + 1 < maxList) :
    Calls Tryz.prog 99 #[.pointer (some ⟨p, 0, none⟩), .string ⟨k.toArray⟩, .string ⟨t.toArray⟩] w fun e w' => e = .returned (.int .i64 ((s.rename k t).2 : Int)) ∧ Turns w w' p (s.rename k t).1 (ownL p mf mn vs vw fb) R := by
  obtain ⟨w3, hw3⟩ : ∃ w3, ((w.alloc (.cells #[.pointer (some ⟨p, 0, none⟩)] 31)).alloc (.cells #[.string ⟨k.toArray⟩] 9)).alloc (.cells #[.string ⟨t.toArray⟩] 9) = w3 := ⟨_, rfl⟩
  have hb3 : Below w.heap.size w w3 := by rw [← hw3]; exact ((below_alloc w _).alloc (by simp) _).alloc (by simp; omega) _
  have hz3 : w3.heap.size = w.heap.size + 1 + 1 + 1 := by rw [← hw3]; simp
  have hcd : Boxed w3 w.heap.size 31 (.pointer (some ⟨p, 0, none⟩)) := by rw [← hw3]; exact ((Boxed.new _ _ _).alloc _).alloc _
  have hck : Boxed w3 (w.heap.size + 1) 9 (.string ⟨k.toArray⟩) := by rw [← hw3]; have := (Boxed.new (w.alloc (.cells #[.pointer (some ⟨p, 0, none⟩)] 31)) 9 (.string ⟨k.toArray⟩)).alloc (.cells #[.string ⟨t.toArray⟩] 9); rwa [World.size_alloc] at this
  have hct : Boxed w3 (w.heap.size + 1 + 1) 9 (.string ⟨t.toArray⟩) := by rw [← hw3]; have := Boxed.new ((w.alloc (.cells #[.pointer (some ⟨p, 0, none⟩)] 31)).alloc (.cells #[.string ⟨k.toArray⟩] 9)) 9 (.string ⟨t.toArray⟩); rwa [World.size_alloc, World.size_alloc] at this
  have h3 := h.below hb3
  have hd := hok.done
  have hmx : maxList = 4194304 := rfl
  have hplt := heap_lt h.cells
  have hth := there_any h3.cells (mn := mn) (by rfl)
  have hmax : maxLen = 9223372036854775807 := rfl
  have hc4 : Chg (· ∈ ownL p mf mn vs vw fb) w (w3.setCell ⟨p, 6, none⟩ (.int .i64 ((s.done + 1 : Nat) : Int))) := (Chg.of_below hb3).trans (Chg.set _ mem_own_p) (fun _ h _ => h)
  have hcs : Chg (· = p) w3 (w3.setCell ⟨p, 6, none⟩ (.int .i64 ((s.done + 1 : Nat) : Int))) := Chg.set _ rfl
  have hcd1 := hcd.cell
  have hck1 := hck.cell
  have hct1 := hct.cell
  have c6 := cell_of_heap h3.cells (i := 6) (v := .int .i64 (s.done : Int)) (by rfl)
  have z6 := frozen_of_heap (i := 6) h3.cells
  have hname := Name_any t
  cases hr : nameOk t with
  | false =>
    rw [hr] at hname
    have hnx : ∀ w, Calls Tryz.prog 23 #[.string ⟨t.toArray⟩] w fun e w' => e = .returned (.bool false) ∧ w = w' := fun w => hname w (by omega)
    have he : s.rename k t = (s.tick, 2) := by unfold DSt.rename; rw [hr]; rfl
    rw [he]
    have hT := h3.tick.turnsSince hc4 h.hR
    have hn : ((s.done + 1 : Nat) : Int) = (s.done : Int) + 1 := by omega
    rw [hn] at hT
    clear he hr hname hc4 hcs hn
    have HZ := Lib.hid hz3; clear hz3
    go_enter Tryz.func99, Tryz.ntmps99
    go_wp2_with (first | (go_at_call 38; refine hth.mono ?_; rintro e1 w2 ⟨rfl, rfl⟩) | (go_at_call 23; refine (hnx _).mono ?_; rintro e1 w2 ⟨rfl, rfl⟩))
    go_ret
    exact ⟨rfl, hT⟩
  | true =>
    rw [hr] at hname
    have hnx : ∀ w, Calls Tryz.prog 23 #[.string ⟨t.toArray⟩] w fun e w' => e = .returned (.bool true) ∧ w = w' := fun w => hname w (by omega)
    clear hname
    cases hf : nlFind s.names k with
    | none =>
      have he : s.rename k t = (s.tick, 7) := by unfold DSt.rename; rw [hr, hf]; rfl
      rw [he]
      have hst := fun f => step_none h3 hk hf (by omega) f
      have hT := h3.tick.turnsSince hc4 h.hR
      clear he hr
      have HZ := Lib.hid hz3; clear hz3
      go_enter Tryz.func99, Tryz.ntmps99
      go_wp2_with (first | (go_at_call 38; refine hth.mono ?_; rintro e1 w2 ⟨rfl, rfl⟩) | (go_at_call 23; refine (hnx _).mono ?_; rintro e1 w2 ⟨rfl, rfl⟩))
      refine (hst _).mono ?_
      rintro _ w4 ⟨rfl, rfl⟩
      go_wp2
      go_ret
      exact ⟨rfl, hT⟩
    | some n =>
      rw [rename_some hr hf]
      have hne0 : ¬ w.heap.size = p := by omega
      have hne1 : ¬ w.heap.size + 1 = p := by omega
      have hne2 : ¬ w.heap.size + 1 + 1 = p := by omega
      have hw1 := rename1_any h3.tick hc4 h.hR (fun b hb => h.lt hb) hok.ticked hN (n := n) (k := k) (t := t) hk (by omega) (hcs.cell hcd.cell hne0) (hcs.cell hck.cell hne1) (hcs.cell hct.cell hne2) (Nat.le_succ _) (by omega)
      have hst := step_some h3 hk hf (by omega) 113 #[.pointer (some ⟨w.heap.size, 0, none⟩), .pointer (some ⟨w.heap.size + 1, 0, none⟩), .pointer (some ⟨w.heap.size + 1 + 1, 0, none⟩)] enters_rename1 (fun v w' => v = 0 ∧ Turns w w' p (s.tick.named (.rename k t)) (ownL p mf mn vs vw fb) R) hw1
      have HZ := Lib.hid hz3; clear hz3 hr
      go_enter Tryz.func99, Tryz.ntmps99
      go_wp2_with (first | (go_at_call 38; refine hth.mono ?_; rintro e1 w2 ⟨rfl, rfl⟩) | (go_at_call 23; refine (hnx _).mono ?_; rintro e1 w2 ⟨rfl, rfl⟩))
      refine hst.mono ?_
      rintro _ w4 ⟨v, rfl, rfl, hT⟩
      go_wp2
      go_ret
      exact ⟨rfl, hT⟩

end Go.Proofs.YtehmnmpkfbginaaGreat
/- Disk: SyncNames. -/
namespace Go.Proofs.YtehmnmpkfbginaaGreat
open Go.RowKit Go.Maps Go.Shelf

theorem cloneN_any {n b : Nat} {D : DataW Unit} {w : World} (h : w.ownsMap Tryz.prog 9 (plainElem Tryz.prog 3) b n D) :
    Calls Tryz.prog 25 #[.map (some b)] w fun e w' => e = .returned (.map (some w.heap.size)) ∧ w'.ownsMap Tryz.prog 9 (plainElem Tryz.prog 3) w.heap.size n D ∧ Below w.heap.size w w' :=
  (AnyW.maps_Clone_owns Tryz.cloneN 9 (plainElem Tryz.prog 3) b n D w h).mono fun _ _ ⟨h1, h2, _, h4⟩ => ⟨h1, h2, h4⟩

theorem apart_vs_none {p mf mn : Nat} {vs vs' vw : Value} {fb : List Nat} (h : (ownL p mf mn vs vw fb).Nodup) (hv : vs'.ownBlock = none) : (ownL p mf mn vs' vw fb).Nodup := by
  unfold ownL at h ⊢
  rw [hv]
  simp only [List.nodup_cons, List.mem_cons, List.mem_append, Option.mem_toList, Option.toList_none, List.nodup_append, List.not_mem_nil, List.nodup_nil] at h ⊢
  grind
section
variable {w : World} {p : Nat} {s : DSt} {R : Nat → Prop} {mf mn ms : Nat} {fb : List Nat} {vs vw : Value} {ss : List Value} {ws : List (List Value)} {e : TypeId}
/-- the names that stand last, and no step is pending -/
theorem DiskP.setSure (h : DiskP w p s R mf mn ms fb vs vw ss ws e) {w2 : World} (hb : Below w.heap.size w w2) {m : Nat} {L : NL} (hm : w2.ownsMap Tryz.prog 9 (plainElem Tryz.prog 3) m L.length (nameD L)) (hm0 : w.heap.size ≤ m) :
    Turns w ((w2.setCell ⟨p, 3, none⟩ (.map (some m))).setCell ⟨p, 4, none⟩ (.slice none 0 0)) p { s with sure := L, steps := [] } (ownL p mf mn vs vw fb) R := by
  obtain ⟨n1, n2, n3, n4, n5⟩ := h.ne_p
  have hplt := heap_lt h.cells
  have hcell2 := (hb.block p hplt).trans h.cells
  have hc0 : Chg (· = p) w w2 := Chg.of_below hb
  have hc3 : Chg (· = p) w2 (w2.setCell ⟨p, 3, none⟩ (.map (some m))) := Chg.set _ rfl
  have hc4 : Chg (· = p) (w2.setCell ⟨p, 3, none⟩ (.map (some m))) ((w2.setCell ⟨p, 3, none⟩ (.map (some m))).setCell ⟨p, 4, none⟩ (.slice none 0 0)) := Chg.set _ rfl
  have hcell4 := heap_set_cells (i := 4) (.slice none 0 0) (heap_set_cells (i := 3) (.map (some m)) hcell2)
  have hm4 := (hc3.trans hc4 (fun _ h _ => h)).map hm (by omega)
  have hcc := (hc0.trans hc3 (fun _ h _ => h)).trans hc4 (fun _ h _ => h)
  have hmlt := hm4.lt
  clear hc3 hc4
  generalize (w2.setCell ⟨p, 3, none⟩ (.map (some m))).setCell ⟨p, 4, none⟩ (.slice none 0 0) = w3 at *
  have hs3 := hcc.size
  have hRO : ∀ b, R b → ¬ b = p := fun b hb => h.notR mem_own_p b hb
  have hOwn : ∀ b ∈ ownL p mf mn (.slice none 0 0) vw fb, b ∈ ownL p mf mn vs vw fb ∨ w.heap.size ≤ b := by
    intro b hb
    rcases mem_own_new (vs := vs) hb with h1 | h1
    · cases h1
    · exact .inl h1
  have hsub : ∀ b ∈ ownL p mf mn (.slice none 0 0) vw fb, b ∈ ownL p mf mn vs vw fb := by
    intro b hb
    rcases mem_own_new (vs := vs) hb with h1 | h1
    · cases h1
    · exact h1
  have hR' := rnew_ok (w' := w3) h.hR hs3 hOwn
  have hR'' : ∀ b, R b → RNew R w w3 (ownL p mf mn (.slice none 0 0) vw fb) b := fun b hb => .inl hb
  refine .of_parts (mf := mf) (mn := mn) (ms := m) (fb := fb) (vs := .slice none 0 0) (vw := vw) (ss := []) (ws := ws) (e := e) ?_ (hcc.mono (fun x hx _ => by subst hx; exact mem_own_p)) hOwn
  exact {
    cells := by simpa using hcell4
    filesM := hcc.map h.filesM (Ne.symm n1)
    namesM := hcc.map h.namesM (Ne.symm n2)
    sureM := hm4
    count := h.count
    file := fun i b d hb hd => (h.file i b d hb hd).kept hcc hRO hR'' (fun e => n5 (e ▸ List.mem_of_getElem? hb))
    stepsR := World.ownsRow_nil _ _ _ _
    step := fun i v x hv hx => by simp at hv
    writesR := hcc.row h.writesR n4
    count4 := h.count4
    write := fun i c x hc hx => (h.write i c x hc hx).kept hcc hRO hR''
    apart := apart_vs_none h.apart rfl
    own := fun b hb => ⟨by have := h.lt (hsub b hb); omega, fun hr => (hR' b hr).2 hb⟩
    shared := fun b hb => (hR' b hb).1
    sureR := .inr ⟨hm0, hmlt, fun hm => by have := h.lt (hsub _ hm); omega⟩ }
end

set_option maxRecDepth 100000 in
set_option maxHeartbeats 4000000 in
theorem SyncNames_any {w : World} {p : Nat} {s : DSt} {R : Nat → Prop} {mf mn ms : Nat} {fb : List Nat} {vs vw : Value} {ss : List Value} {ws : List (List Value)} {e : TypeId} (h : DiskP w p s R mf mn ms fb vs vw ss ws e) {N : Nat} (hok : s.Ok N) (hN : N + 1 < maxList) :
    Calls Tryz.prog 101 #[.pointer (some ⟨p, 0, none⟩)] w fun e w' => e = .returned (.int .i64 ((s.syncNames).2 : Int)) ∧ Turns w w' p (s.syncNames).1 (ownL p mf mn vs vw fb) R := by
  have hth := there_any h.cells (mn := mn) (by rfl)
  have c6 := cell_of_heap h.cells (i := 6) (v := .int .i64 (s.done : Int)) (by rfl)
  have z6 := frozen_of_heap (i := 6) h.cells
  have hd := hok.done
  have hmx : maxList = 4194304 := rfl
  have hn : ((s.done + 1 : Nat) : Int) = (s.done : Int) + 1 := by omega
  have hk := h.tick
  have hc1 : Chg (· ∈ ownL p mf mn vs vw fb) w (w.setCell ⟨p, 6, none⟩ (.int .i64 ((s.done + 1 : Nat) : Int))) := Chg.set _ mem_own_p
  have he : s.syncNames = ({ s.tick with sure := s.names, steps := [] }, 0) := rfl
  rw [he]
  rw [hn] at hk hc1
  clear he hn
  have HR := Lib.hid h.hR
  generalize hw1 : w.setCell ⟨p, 6, none⟩ (.int .i64 ((s.done : Int) + 1)) = w1 at *
  have c2 := cell_of_heap hk.cells (i := 2) (v := .map (some mn)) (by rfl)
  have hcl := cloneN_any hk.namesM
  have hp1 := heap_lt hk.cells
  clear h
  go_enter Tryz.func101, Tryz.ntmps101
  go_wp2_with (first | (go_at_call 38; refine hth.mono ?_; rintro e1 w2 ⟨rfl, rfl⟩) | (go_at_call 25; refine hcl.mono ?_; rintro _ w2 ⟨rfl, hm2, hb2⟩; have c2' := cell_of_heap ((hb2.block p hp1).trans hk.cells) (i := 3) (v := .map (some ms)) (by rfl); have z2' := frozen_of_heap (i := 3) ((hb2.block p hp1).trans hk.cells); have c4' := cell_of_heap ((hb2.block p hp1).trans hk.cells) (i := 4) (v := vs) (by rfl); have z4' := frozen_of_heap (i := 4) ((hb2.block p hp1).trans hk.cells)))
  go_ret
  exact ⟨rfl, Turns.after' hc1 HR.out (hk.setSure hb2 hm2 (Nat.le_refl _)) (fun y hy => .inl hy) (fun y hy => .inl hy)⟩

end Go.Proofs.YtehmnmpkfbginaaGreat
