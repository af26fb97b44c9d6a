/- Disk: Write, Cut: the methods. -/
import Derived.Test.YtgckcnnnblggbaaDkE
namespace Go.Proofs.Ytgckcnnnblggbaa
open Go.RowKit Go.Maps

theorem put_some {s : DSt} {k : List UInt8} {f : Nat} (hf : nlFind s.names k = some f) (at_ : Int) (b : List UInt8) : s.put k at_ b = s.tick.putAt f at_ b := by
  unfold DSt.put
  rw [hf]
  simp only []
  unfold DSt.putAt
  have e1 : s.tick.stands f = s.stands f := rfl
  have e2 : s.tick.used = s.used := rfl
  have e3 : s.tick.room = s.room := rfl
  rw [e1, e2, e3]
  split
  · rfl
  · split
    · rfl
    · rfl
theorem DSt.Ok.ticked {s : DSt} {N : Nat} (h : s.Ok N) : s.tick.Ok (N + 1) where
  room := h.room
  names := h.names
  sure := h.sure
  rising := h.rising
  risingSure := h.risingSure
  steps := h.steps
  writes := h.writes
  files := h.files
  manyFiles := Nat.le_succ_of_le h.manyFiles
  manySteps := Nat.le_succ_of_le h.manySteps
  manyWrites := Nat.le_succ_of_le h.manyWrites
  manyNames := Nat.le_succ_of_le h.manyNames
  manySure := Nat.le_succ_of_le h.manySure
  done := Nat.succ_le_succ h.done
theorem enters_write1 : enters 35 := fun args w => by go_simp

/-- bytes do not lie in the disk's own struct -/
theorem DiskP.bytes_ne {w : World} {p : Nat} {s : DSt} {R : Nat → Prop} {mf mn ms : Nat} {fb : List Nat} {vs vw : Value} {ss : List Value} {ws : List (List Value)} {e : TypeId} (h : DiskP w p s R mf mn ms fb vs vw ss ws e) {xa : Option Addr} {l : List UInt8} (hrow : RowAt w xa (l.map bv)) :
    l.map bv ≠ [] → ∀ x, xa = some x → ¬ x.block = p := by
  rintro hx x rfl ex
  obtain ⟨b, off, e1, hc⟩ := hrow hx
  cases e1
  cases ex
  cases l with
  | nil => exact hx rfl
  | cons y r =>
    have := hc 0 (bv y) rfl
    obtain ⟨a1, c1, rfl⟩ := row_slice h.stepsR
    obtain ⟨a2, c2, rfl⟩ := row_slice h.writesR
    have hcell := h.cells
    simp only [World.cell?, hcell, Nat.add_zero] at this
    revert this
    match off with
    | 0 | 1 | 2 | 3 | 4 | 5 | 6 => simp [bv]
    | n + 7 => simp
theorem Boxed.from_chg {O : Nat → Prop} {w w' : World} {b : Nat} {t : TypeId} {v : Value} (h : Boxed w b t v) (hc : Chg O w w') (hO : ¬ O b) : Boxed w' b t v := (hc.block b (heap_lt h) hO).trans h

set_option maxRecDepth 100000 in
set_option maxHeartbeats 4000000 in
theorem Write_any {w : World} {p : Nat} {s : DSt} {R : Nat → Prop} {mf mn ms : Nat} {fb : List Nat} {vs vw : Value} {ss : List Value} {ws : List (List Value)} {e : TypeId} (h : DiskP w p s R mf mn ms fb vs vw ss ws e)
    {k : List UInt8} (hk : k.length ≤ maxLen) {N : Nat} (hok : s.Ok N) (hN : N + 1 < maxList)
    {at_ : Int} {xa : Option Addr} {xc : Nat} {l : List UInt8} (hrow : RowAt w xa (l.map bv)) (hnil : xa = none → xc = 0) (hl : l.length ≤ 140737488355328) (h64 : -9223372036854775808 ≤ at_ ∧ at_ < 9223372036854775808) :
    Calls Try.prog 12 #[.pointer (some ⟨p, 0, none⟩), .string ⟨k.toArray⟩, .int .i64 at_, .slice xa l.length xc] w fun e w' => e = .returned (.int .i64 ((s.put k at_ l).2 : Int)) ∧ Turns w w' p (s.put k at_ l).1 (ownL p mf mn vs vw fb) R := by
  obtain ⟨w3, hw3⟩ : ∃ w3, ((w.alloc (.cells #[.pointer (some ⟨p, 0, none⟩)] 24)).alloc (.cells #[.int .i64 at_] 2)).alloc (.cells #[.slice xa l.length xc] 28) = w3 := ⟨_, rfl⟩
  have hb3 : Below w.heap.size w w3 := by rw [← hw3]; exact ((below_alloc w _).alloc (by simp) _).alloc (by simp; omega) _
  have hz3 : w3.heap.size = w.heap.size + 1 + 1 + 1 := by rw [← hw3]; simp
  have hcd : Boxed w3 w.heap.size 24 (.pointer (some ⟨p, 0, none⟩)) := by rw [← hw3]; exact ((Boxed.new _ _ _).alloc _).alloc _
  have hca : Boxed w3 (w.heap.size + 1) 2 (.int .i64 at_) := by rw [← hw3]; have := (Boxed.new (w.alloc (.cells #[.pointer (some ⟨p, 0, none⟩)] 24)) 2 (.int .i64 at_)).alloc (.cells #[.slice xa l.length xc] 28); rwa [World.size_alloc] at this
  have hcb : Boxed w3 (w.heap.size + 1 + 1) 28 (.slice xa l.length xc) := by rw [← hw3]; have := Boxed.new ((w.alloc (.cells #[.pointer (some ⟨p, 0, none⟩)] 24)).alloc (.cells #[.int .i64 at_] 2)) 28 (.slice xa l.length xc); rwa [World.size_alloc, World.size_alloc] at this
  have h3 := h.below hb3
  have hd := hok.done
  have hmx : maxList = 4194304 := rfl
  have hplt := heap_lt h.cells
  have hc4 : Chg (· ∈ ownL p mf mn vs vw fb) w (w3.setCell ⟨p, 6, none⟩ (.int .i64 ((s.done + 1 : Nat) : Int))) := (Chg.of_below hb3).trans (Chg.set _ mem_own_p) (fun _ h _ => h)
  have hcs : Chg (· = p) w3 (w3.setCell ⟨p, 6, none⟩ (.int .i64 ((s.done + 1 : Nat) : Int))) := Chg.set _ rfl
  cases hf : nlFind s.names k with
  | none =>
    have he : s.put k at_ l = (s.tick, 7) := by unfold DSt.put; rw [hf]
    rw [he]
    have hst := fun f => step_none h3 hk hf (by omega) f
    have hT := h3.tick.turnsSince hc4 h.hR
    clear he
    have HZ := Lib.hid hz3; clear hz3
    have hcd1 := hcd.cell
    go_enter Try.func12, Try.ntmps12
    go_wp2_with fail
    refine (hst _).mono ?_
    rintro _ w4 ⟨rfl, rfl⟩
    go_wp2
    go_ret
    exact ⟨rfl, hT⟩
  | some n =>
    rw [put_some hf]
    have hq0 : w.heap.size + 1 + 1 ≠ w.heap.size ∧ w.heap.size + 1 + 1 ≠ w.heap.size + 1 := by omega
    have hne0 : ¬ w.heap.size = p := by omega
    have hne1 : ¬ w.heap.size + 1 = p := by omega
    have hne2 : ¬ w.heap.size + 1 + 1 = p := by omega
    have hw1 := write1_any h3.tick hc4 h.hR (fun b hb => h.lt hb) hok.ticked hN (k := k) hf (hcs.cell hcd.cell hne0) (hcs.cell hca.cell hne1) (hcs.cell hcb.cell hne2) ((Boxed.from_chg hcb hcs hne2).frozen) (Nat.le_refl _) (Nat.le_succ _) (by omega) hq0.1 hq0.2 ((hrow.below hb3).chg hcs (h3.bytes_ne (hrow.below hb3))) hnil hl h64
    have hst := step_some h3 hk hf (by omega) 35 #[.pointer (some ⟨w.heap.size, 0, none⟩), .pointer (some ⟨w.heap.size + 1, 0, none⟩), .pointer (some ⟨w.heap.size + 1 + 1, 0, none⟩)] enters_write1 (fun v w' => v = ((s.tick.putAt n at_ l).2 : Int) ∧ Turns w w' p (s.tick.putAt n at_ l).1 (ownL p mf mn vs vw fb) R) hw1
    have HZ := Lib.hid hz3; clear hz3
    have hcd1 := hcd.cell
    go_enter Try.func12, Try.ntmps12
    go_wp2_with fail
    refine hst.mono ?_
    rintro _ w4 ⟨v, rfl, rfl, hT⟩
    go_wp2
    go_ret
    exact ⟨rfl, hT⟩

end Go.Proofs.Ytgckcnnnblggbaa
