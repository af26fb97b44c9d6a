/- Disk: Cut. -/
import Derived.Test.YtgckcnnnblggbaaDkF
namespace Go.Proofs.Ytgckcnnnblggbaa
open Go.RowKit Go.Maps

/-- Cut, once the file is found -/
def DSt.cutAt (s : DSt) (f : Nat) (size : Int) : DSt × Nat :=
  if size < 0 ∨ ((s.stands f).length : Int) < size then (s, 2) else (s.written ⟨f, true, size.toNat, []⟩, 0)
theorem cut_some {s : DSt} {k : List UInt8} {f : Nat} (hf : nlFind s.names k = some f) (size : Int) : s.cut k size = s.tick.cutAt f size := by
  unfold DSt.cut
  rw [hf]
  simp only []
  unfold DSt.cutAt
  have e1 : s.tick.stands f = s.stands f := rfl
  rw [e1]
  split <;> rfl
theorem enters_cut1 : enters 42 := fun args w => by go_simp

set_option maxRecDepth 100000 in
set_option maxHeartbeats 4000000 in
theorem cut1_any {w0 w : World} {p : Nat} {s : DSt} {R : Nat → Prop} {mf mn ms : Nat} {fb : List Nat} {vs vw : Value} {ss : List Value} {ws : List (List Value)} {e : TypeId} (h : DiskP w p s R mf mn ms fb vs vw ss ws e)
    (hc : Chg (· ∈ ownL p mf mn vs vw fb) w0 w) (hR : ∀ b, R b → b < w0.heap.size ∧ b ∉ ownL p mf mn vs vw fb) (hown : ∀ b ∈ ownL p mf mn vs vw fb, b < w0.heap.size) {N : Nat} (hok : s.Ok N) (hN : N < maxList) {n : Nat} {k : List UInt8} (hf : nlFind s.names k = some n)
    {bd ba : Nat} {size : Int} (cd : w.cell? ⟨bd, 0, none⟩ = some (.pointer (some ⟨p, 0, none⟩))) (ca : w.cell? ⟨ba, 0, none⟩ = some (.int .i64 size)) (ha0 : w0.heap.size ≤ ba) (h64 : -9223372036854775808 ≤ size ∧ size < 9223372036854775808) :
    Calls Try.prog 42 #[.int .i64 (n : Int), .pointer (some ⟨ba, 0, none⟩), .pointer (some ⟨bd, 0, none⟩)] w fun e w' => ∃ v, e = .returned (.int .i64 v) ∧ v = ((s.cutAt n size).2 : Int) ∧ Turns w0 w' p (s.cutAt n size).1 (ownL p mf mn vs vw fb) R := by
  have hmx : maxList = 4194304 := rfl
  have hmf : maxFile = 1099511627776 := rfl
  have hn := (hok.names _ (nlFind_mem hf)).1
  have hnn : n ≤ 4194304 := by have := hok.manyFiles; omega
  obtain ⟨b, e', vd, vs', hfb, hfh, hbd', hbs, hlk⟩ := h.file_at (n := n) hn (by omega)
  obtain ⟨da, dc, rfl, _, _, _⟩ := hbd'.row
  have c1 := cell_of_heap h.cells (i := 1) (v := .map (some mf)) (by rfl)
  have f0 := cell_of_heap hfh (i := 0) (v := .slice da (s.stands n).length dc) (by rfl)
  have hst := hok.stands_le n
  have hT := fun nq => (h.turnsSince hc hR).drewN nq
  by_cases e1 : size < 0
  · have he : s.cutAt n size = (s, 2) := by unfold DSt.cutAt; rw [if_pos (.inl e1)]
    rw [he]
    clear he
    have g1 : decide (size < 0) = true := by simpa using e1
    generalize (s.stands n).length = dl at *
    go_enter Try.func42, Try.ntmps42
    go_wp2
    go_quiet (fail)
    go_wp2
    go_ret
    exact ⟨_, rfl, rfl, hT _⟩
  · have g1 : decide (size < 0) = false := by simpa using e1
    by_cases e2 : ((s.stands n).length : Int) < size
    · have he : s.cutAt n size = (s, 2) := by unfold DSt.cutAt; rw [if_pos (.inr e2)]
      rw [he]
      clear he
      have g2 : decide (((s.stands n).length : Int) < size) = true := by simpa using e2
      generalize (s.stands n).length = dl at *
      go_enter Try.func42, Try.ntmps42
      go_wp2
      go_quiet (fail)
      go_wp2
      go_ret
      exact ⟨_, rfl, rfl, hT _⟩
    · have g2 : decide (((s.stands n).length : Int) < size) = false := by simpa using e2
      obtain ⟨q, rfl⟩ : ∃ q : Nat, size = (q : Int) := ⟨size.toNat, by omega⟩
      have he : s.cutAt n q = (s.written ⟨n, true, q, []⟩, 0) := by unfold DSt.cutAt; rw [if_neg (by rintro (h | h); exact e1 h; exact e2 h)]; simp
      rw [he]
      clear he
      have HQ : q ≤ maxFile := by omega
      generalize hS : (s.stands n).length = dl at *
      go_enter Try.func42, Try.ntmps42
      go_wp2
      go_quiet (fail)
      have hb4 : Below w.heap.size w (w.drewN nq) := below_drewN (Below.refl _ _) nq
      have h4 := h.below hb4
      have hc04 := hc.trans (Chg.of_below (O := (· ∈ ownL p mf mn vs vw fb)) hb4) (fun _ h _ => h)
      have cd4 := (hb4.cell (p := ⟨bd, 0, none⟩) (cell_lt cd)).trans cd
      have ca4 := (hb4.cell (p := ⟨ba, 0, none⟩) (cell_lt ca)).trans ca
      generalize w.drewN nq = w4 at *
      clear c1 f0 hlk
      have hlay : LayIn w4 (RNew R w0 w4 (ownL p mf mn vs vw fb)) (.func (.func 43) #[] #[.pointer (some ⟨ba, 0, none⟩)]) ⟨n, true, q, []⟩ :=
        ⟨_, rfl, ⟨_, rfl, .inr ⟨ha0, cell_lt ca4, fun hm => by have := hown _ hm; omega⟩, ca4⟩⟩
      have hwr := written_any (h4.since hc04 hR) (x := ⟨n, true, q, []⟩) hlay hok hN hn HQ
      go_wp2_with (go_at_call 37; refine hwr.mono ?_; rintro _ w7 ⟨rfl, hT7⟩)
      go_ret
      exact ⟨_, rfl, rfl, Turns.after hc04 hR hT7⟩

set_option maxRecDepth 100000 in
set_option maxHeartbeats 4000000 in
theorem Cut_any {w : World} {p : Nat} {s : DSt} {R : Nat → Prop} {mf mn ms : Nat} {fb : List Nat} {vs vw : Value} {ss : List Value} {ws : List (List Value)} {e : TypeId} (h : DiskP w p s R mf mn ms fb vs vw ss ws e)
    {k : List UInt8} (hk : k.length ≤ maxLen) {N : Nat} (hok : s.Ok N) (hN : N + 1 < maxList) {size : Int} (h64 : -9223372036854775808 ≤ size ∧ size < 9223372036854775808) :
    Calls Try.prog 14 #[.pointer (some ⟨p, 0, none⟩), .string ⟨k.toArray⟩, .int .i64 size] w fun e w' => e = .returned (.int .i64 ((s.cut k size).2 : Int)) ∧ Turns w w' p (s.cut k size).1 (ownL p mf mn vs vw fb) R := by
  obtain ⟨w3, hw3⟩ : ∃ w3, (w.alloc (.cells #[.pointer (some ⟨p, 0, none⟩)] 24)).alloc (.cells #[.int .i64 size] 2) = w3 := ⟨_, rfl⟩
  have hb3 : Below w.heap.size w w3 := by rw [← hw3]; exact (below_alloc w _).alloc (by simp) _
  have hz3 : w3.heap.size = w.heap.size + 1 + 1 := by rw [← hw3]; simp
  have hcd : Boxed w3 w.heap.size 24 (.pointer (some ⟨p, 0, none⟩)) := by rw [← hw3]; exact (Boxed.new _ _ _).alloc _
  have hca : Boxed w3 (w.heap.size + 1) 2 (.int .i64 size) := by rw [← hw3]; have := Boxed.new (w.alloc (.cells #[.pointer (some ⟨p, 0, none⟩)] 24)) 2 (.int .i64 size); rwa [World.size_alloc] at this
  have h3 := h.below hb3
  have hd := hok.done
  have hmx : maxList = 4194304 := rfl
  have hplt := heap_lt h.cells
  have hc4 : Chg (· ∈ ownL p mf mn vs vw fb) w (w3.setCell ⟨p, 6, none⟩ (.int .i64 ((s.done + 1 : Nat) : Int))) := (Chg.of_below hb3).trans (Chg.set _ mem_own_p) (fun _ h _ => h)
  have hcs : Chg (· = p) w3 (w3.setCell ⟨p, 6, none⟩ (.int .i64 ((s.done + 1 : Nat) : Int))) := Chg.set _ rfl
  have hcd1 := hcd.cell
  cases hf : nlFind s.names k with
  | none =>
    have he : s.cut k size = (s.tick, 7) := by unfold DSt.cut; rw [hf]
    rw [he]
    have hst := fun f => step_none h3 hk hf (by omega) f
    have hT := h3.tick.turnsSince hc4 h.hR
    clear he
    have HZ := Lib.hid hz3; clear hz3
    go_enter Try.func14, Try.ntmps14
    go_wp2_with fail
    refine (hst _).mono ?_
    rintro _ w4 ⟨rfl, rfl⟩
    go_wp2
    go_ret
    exact ⟨rfl, hT⟩
  | some n =>
    rw [cut_some hf]
    have hne0 : ¬ w.heap.size = p := by omega
    have hne1 : ¬ w.heap.size + 1 = p := by omega
    have hw1 := cut1_any h3.tick hc4 h.hR (fun b hb => h.lt hb) hok.ticked hN (k := k) hf (hcs.cell hcd.cell hne0) (hcs.cell hca.cell hne1) (Nat.le_succ _) h64
    have hst := step_some h3 hk hf (by omega) 42 #[.pointer (some ⟨w.heap.size + 1, 0, none⟩), .pointer (some ⟨w.heap.size, 0, none⟩)] enters_cut1 (fun v w' => v = ((s.tick.cutAt n size).2 : Int) ∧ Turns w w' p (s.tick.cutAt n size).1 (ownL p mf mn vs vw fb) R) hw1
    have HZ := Lib.hid hz3; clear hz3
    go_enter Try.func14, Try.ntmps14
    go_wp2_with fail
    refine hst.mono ?_
    rintro _ w4 ⟨v, rfl, rfl, hT⟩
    go_wp2
    go_ret
    exact ⟨rfl, hT⟩

end Go.Proofs.Ytgckcnnnblggbaa
