/- Disk: Remove, Rename. -/
import Derived.Test.YtgckcnnnblggbaaDkG
namespace Go.Proofs.Ytgckcnnnblggbaa
open Go.RowKit Go.Maps

theorem remove_some {s : DSt} {k : List UInt8} {n : Nat} (hf : nlFind s.names k = some n) : s.remove k = (s.tick.named (.remove k), 0) := by unfold DSt.remove; rw [hf]; rfl
theorem rename_some {s : DSt} {k t : List UInt8} {n : Nat} (ht : nameOk t = true) (hf : nlFind s.names k = some n) : s.rename k t = (s.tick.named (.rename k t), 0) := by unfold DSt.rename; rw [ht, hf]; rfl
theorem enters_remove1 : enters 39 := fun args w => by go_simp
theorem enters_rename1 : enters 60 := fun args w => by go_simp

set_option maxRecDepth 100000 in
set_option maxHeartbeats 4000000 in
theorem remove1_any {w0 w : World} {p : Nat} {s : DSt} {R : Nat → Prop} {mf mn ms : Nat} {fb : List Nat} {vs vw : Value} {ss : List Value} {ws : List (List Value)} {e : TypeId} (h : DiskP w p s R mf mn ms fb vs vw ss ws e)
    (hc : Chg (· ∈ ownL p mf mn vs vw fb) w0 w) (hR : ∀ b, R b → b < w0.heap.size ∧ b ∉ ownL p mf mn vs vw fb) (hown : ∀ b ∈ ownL p mf mn vs vw fb, b < w0.heap.size) {N : Nat} (hok : s.Ok N) (hN : N < maxList) {n : Nat} {k : List UInt8} (hk : k.length ≤ maxLen)
    {bd bk : Nat} (cd : w.cell? ⟨bd, 0, none⟩ = some (.pointer (some ⟨p, 0, none⟩))) (ck : w.cell? ⟨bk, 0, none⟩ = some (.string ⟨k.toArray⟩)) (hk0 : w0.heap.size ≤ bk) :
    Calls Try.prog 39 #[.int .i64 (n : Int), .pointer (some ⟨bd, 0, none⟩), .pointer (some ⟨bk, 0, none⟩)] w fun e w' => ∃ v, e = .returned (.int .i64 v) ∧ v = 0 ∧ Turns w0 w' p (s.named (.remove k)) (ownL p mf mn vs vw fb) R := by
  have hmx : maxList = 4194304 := rfl
  have hD := h.since hc hR
  have hst : StepIn w (RNew R w0 w (ownL p mf mn vs vw fb)) (.func (.func 41) #[] #[.pointer (some ⟨bk, 0, none⟩)]) (.remove k) :=
    ⟨_, rfl, ⟨_, rfl, .inr ⟨hk0, cell_lt ck, fun hm => by have := hown _ hm; omega⟩, ck⟩⟩
  have hms := hok.manySteps
  have hcr := named_any hD hst (remove_does hst (b := mn) hD.namesM hk) (by omega)
  go_enter Try.func39, Try.ntmps39
  go_wp2_with (go_at_call 40; refine hcr.mono ?_; rintro _ w6 ⟨rfl, hT6⟩)
  go_ret
  exact ⟨_, rfl, rfl, Turns.after hc hR hT6⟩

set_option maxRecDepth 100000 in
set_option maxHeartbeats 4000000 in
theorem Remove_any {w : World} {p : Nat} {s : DSt} {R : Nat → Prop} {mf mn ms : Nat} {fb : List Nat} {vs vw : Value} {ss : List Value} {ws : List (List Value)} {e : TypeId} (h : DiskP w p s R mf mn ms fb vs vw ss ws e)
    {k : List UInt8} (hk : k.length ≤ maxLen) {N : Nat} (hok : s.Ok N) (hN : N + 1 < maxList) :
    Calls Try.prog 13 #[.pointer (some ⟨p, 0, none⟩), .string ⟨k.toArray⟩] w fun e w' => e = .returned (.int .i64 ((s.remove k).2 : Int)) ∧ Turns w w' p (s.remove k).1 (ownL p mf mn vs vw fb) R := by
  obtain ⟨w3, hw3⟩ : ∃ w3, (w.alloc (.cells #[.pointer (some ⟨p, 0, none⟩)] 24)).alloc (.cells #[.string ⟨k.toArray⟩] 9) = w3 := ⟨_, rfl⟩
  have hb3 : Below w.heap.size w w3 := by rw [← hw3]; exact (below_alloc w _).alloc (by simp) _
  have hz3 : w3.heap.size = w.heap.size + 1 + 1 := by rw [← hw3]; simp
  have hcd : Boxed w3 w.heap.size 24 (.pointer (some ⟨p, 0, none⟩)) := by rw [← hw3]; exact (Boxed.new _ _ _).alloc _
  have hck : Boxed w3 (w.heap.size + 1) 9 (.string ⟨k.toArray⟩) := by rw [← hw3]; have := Boxed.new (w.alloc (.cells #[.pointer (some ⟨p, 0, none⟩)] 24)) 9 (.string ⟨k.toArray⟩); rwa [World.size_alloc] at this
  have h3 := h.below hb3
  have hd := hok.done
  have hmx : maxList = 4194304 := rfl
  have hplt := heap_lt h.cells
  have hc4 : Chg (· ∈ ownL p mf mn vs vw fb) w (w3.setCell ⟨p, 6, none⟩ (.int .i64 ((s.done + 1 : Nat) : Int))) := (Chg.of_below hb3).trans (Chg.set _ mem_own_p) (fun _ h _ => h)
  have hcs : Chg (· = p) w3 (w3.setCell ⟨p, 6, none⟩ (.int .i64 ((s.done + 1 : Nat) : Int))) := Chg.set _ rfl
  have hcd1 := hcd.cell
  have hck1 := hck.cell
  cases hf : nlFind s.names k with
  | none =>
    have he : s.remove k = (s.tick, 7) := by unfold DSt.remove; rw [hf]
    rw [he]
    have hst := fun f => step_none h3 hk hf (by omega) f
    have hT := h3.tick.turnsSince hc4 h.hR
    clear he
    have HZ := Lib.hid hz3; clear hz3
    go_enter Try.func13, Try.ntmps13
    go_wp2_with fail
    refine (hst _).mono ?_
    rintro _ w4 ⟨rfl, rfl⟩
    go_wp2
    go_ret
    exact ⟨rfl, hT⟩
  | some n =>
    rw [remove_some hf]
    have hne0 : ¬ w.heap.size = p := by omega
    have hne1 : ¬ w.heap.size + 1 = p := by omega
    have hw1 := remove1_any h3.tick hc4 h.hR (fun b hb => h.lt hb) hok.ticked hN (n := n) (k := k) hk (hcs.cell hcd.cell hne0) (hcs.cell hck.cell hne1) (Nat.le_succ _)
    have hst := step_some h3 hk hf (by omega) 39 #[.pointer (some ⟨w.heap.size, 0, none⟩), .pointer (some ⟨w.heap.size + 1, 0, none⟩)] enters_remove1 (fun v w' => v = 0 ∧ Turns w w' p (s.tick.named (.remove k)) (ownL p mf mn vs vw fb) R) hw1
    have HZ := Lib.hid hz3; clear hz3
    go_enter Try.func13, Try.ntmps13
    go_wp2_with fail
    refine hst.mono ?_
    rintro _ w4 ⟨v, rfl, rfl, hT⟩
    go_wp2
    go_ret
    exact ⟨rfl, hT⟩

set_option maxRecDepth 100000 in
set_option maxHeartbeats 4000000 in
theorem rename1_any {w0 w : World} {p : Nat} {s : DSt} {R : Nat → Prop} {mf mn ms : Nat} {fb : List Nat} {vs vw : Value} {ss : List Value} {ws : List (List Value)} {e : TypeId} (h : DiskP w p s R mf mn ms fb vs vw ss ws e)
    (hc : Chg (· ∈ ownL p mf mn vs vw fb) w0 w) (hR : ∀ b, R b → b < w0.heap.size ∧ b ∉ ownL p mf mn vs vw fb) (hown : ∀ b ∈ ownL p mf mn vs vw fb, b < w0.heap.size) {N : Nat} (hok : s.Ok N) (hN : N < maxList) {n : Nat} {k t : List UInt8} (hk : k.length ≤ maxLen) (ht : t.length ≤ maxLen)
    {bd bk bt : Nat} (cd : w.cell? ⟨bd, 0, none⟩ = some (.pointer (some ⟨p, 0, none⟩))) (ck : w.cell? ⟨bk, 0, none⟩ = some (.string ⟨k.toArray⟩)) (ct : w.cell? ⟨bt, 0, none⟩ = some (.string ⟨t.toArray⟩)) (hk0 : w0.heap.size ≤ bk) (ht0 : w0.heap.size ≤ bt) :
    Calls Try.prog 60 #[.int .i64 (n : Int), .pointer (some ⟨bd, 0, none⟩), .pointer (some ⟨bk, 0, none⟩), .pointer (some ⟨bt, 0, none⟩)] w fun e w' => ∃ v, e = .returned (.int .i64 v) ∧ v = 0 ∧ Turns w0 w' p (s.named (.rename k t)) (ownL p mf mn vs vw fb) R := by
  have hmx : maxList = 4194304 := rfl
  have hmax : maxLen = 9223372036854775807 := rfl
  have hD := h.since hc hR
  have hst : StepIn w (RNew R w0 w (ownL p mf mn vs vw fb)) (.func (.func 61) #[] #[.pointer (some ⟨bk, 0, none⟩), .pointer (some ⟨bt, 0, none⟩)]) (.rename k t) :=
    ⟨_, _, rfl, ⟨_, rfl, .inr ⟨hk0, cell_lt ck, fun hm => by have := hown _ hm; omega⟩, ck⟩, ⟨_, rfl, .inr ⟨ht0, cell_lt ct, fun hm => by have := hown _ hm; omega⟩, ct⟩⟩
  have hms := hok.manySteps
  have hmn := hok.manyNames
  have hmf := hok.manyFiles
  have hcr := named_any hD hst (rename_does hst (b := mn) (hD.own _ mem_own_mn).2 hD.namesM hk ht (by omega) (fun q hq => by have := (hok.names q hq).1; omega)) (by omega)
  go_enter Try.func60, Try.ntmps60
  go_wp2_with (go_at_call 40; refine hcr.mono ?_; rintro _ w6 ⟨rfl, hT6⟩)
  go_ret
  exact ⟨_, rfl, rfl, Turns.after hc hR hT6⟩

set_option maxRecDepth 100000 in
set_option maxHeartbeats 4000000 in
theorem Rename_any {w : World} {p : Nat} {s : DSt} {R : Nat → Prop} {mf mn ms : Nat} {fb : List Nat} {vs vw : Value} {ss : List Value} {ws : List (List Value)} {e : TypeId} (h : DiskP w p s R mf mn ms fb vs vw ss ws e)
    {k t : List UInt8} (hk : k.length ≤ maxLen) (ht : t.length ≤ maxLen) {N : Nat} (hok : s.Ok N) (hN : N + 1 < maxList) :
    Calls Try.prog 44 #[.pointer (some ⟨p, 0, none⟩), .string ⟨k.toArray⟩, .string ⟨t.toArray⟩] w fun e w' => e = .returned (.int .i64 ((s.rename k t).2 : Int)) ∧ Turns w w' p (s.rename k t).1 (ownL p mf mn vs vw fb) R := by
  obtain ⟨w3, hw3⟩ : ∃ w3, ((w.alloc (.cells #[.pointer (some ⟨p, 0, none⟩)] 24)).alloc (.cells #[.string ⟨k.toArray⟩] 9)).alloc (.cells #[.string ⟨t.toArray⟩] 9) = w3 := ⟨_, rfl⟩
  have hb3 : Below w.heap.size w w3 := by rw [← hw3]; exact ((below_alloc w _).alloc (by simp) _).alloc (by simp; omega) _
  have hz3 : w3.heap.size = w.heap.size + 1 + 1 + 1 := by rw [← hw3]; simp
  have hcd : Boxed w3 w.heap.size 24 (.pointer (some ⟨p, 0, none⟩)) := by rw [← hw3]; exact ((Boxed.new _ _ _).alloc _).alloc _
  have hck : Boxed w3 (w.heap.size + 1) 9 (.string ⟨k.toArray⟩) := by rw [← hw3]; have := (Boxed.new (w.alloc (.cells #[.pointer (some ⟨p, 0, none⟩)] 24)) 9 (.string ⟨k.toArray⟩)).alloc (.cells #[.string ⟨t.toArray⟩] 9); rwa [World.size_alloc] at this
  have hct : Boxed w3 (w.heap.size + 1 + 1) 9 (.string ⟨t.toArray⟩) := by rw [← hw3]; have := Boxed.new ((w.alloc (.cells #[.pointer (some ⟨p, 0, none⟩)] 24)).alloc (.cells #[.string ⟨k.toArray⟩] 9)) 9 (.string ⟨t.toArray⟩); rwa [World.size_alloc, World.size_alloc] at this
  have h3 := h.below hb3
  have hd := hok.done
  have hmx : maxList = 4194304 := rfl
  have hplt := heap_lt h.cells
  have hth := there_any h3.cells (mn := mn) (by rfl)
  have hmax : maxLen = 9223372036854775807 := rfl
  have hc4 : Chg (· ∈ ownL p mf mn vs vw fb) w (w3.setCell ⟨p, 6, none⟩ (.int .i64 ((s.done + 1 : Nat) : Int))) := (Chg.of_below hb3).trans (Chg.set _ mem_own_p) (fun _ h _ => h)
  have hcs : Chg (· = p) w3 (w3.setCell ⟨p, 6, none⟩ (.int .i64 ((s.done + 1 : Nat) : Int))) := Chg.set _ rfl
  have hcd1 := hcd.cell
  have hck1 := hck.cell
  have hct1 := hct.cell
  have c6 := cell_of_heap h3.cells (i := 6) (v := .int .i64 (s.done : Int)) (by rfl)
  have z6 := frozen_of_heap (i := 6) h3.cells
  have hname := Name_any t
  cases hr : nameOk t with
  | false =>
    rw [hr] at hname
    have hnx : ∀ w, Calls Try.prog 7 #[.string ⟨t.toArray⟩] w fun e w' => e = .returned (.bool false) ∧ w = w' := fun w => hname w (by omega)
    have he : s.rename k t = (s.tick, 2) := by unfold DSt.rename; rw [hr]; rfl
    rw [he]
    have hT := h3.tick.turnsSince hc4 h.hR
    have hn : ((s.done + 1 : Nat) : Int) = (s.done : Int) + 1 := by omega
    rw [hn] at hT
    clear he hr hname hc4 hcs hn
    have HZ := Lib.hid hz3; clear hz3
    go_enter Try.func44, Try.ntmps44
    go_wp2_with (first | (go_at_call 45; refine hth.mono ?_; rintro e1 w2 ⟨rfl, rfl⟩) | (go_at_call 7; refine (hnx _).mono ?_; rintro e1 w2 ⟨rfl, rfl⟩))
    go_ret
    exact ⟨rfl, hT⟩
  | true =>
    rw [hr] at hname
    have hnx : ∀ w, Calls Try.prog 7 #[.string ⟨t.toArray⟩] w fun e w' => e = .returned (.bool true) ∧ w = w' := fun w => hname w (by omega)
    clear hname
    cases hf : nlFind s.names k with
    | none =>
      have he : s.rename k t = (s.tick, 7) := by unfold DSt.rename; rw [hr, hf]; rfl
      rw [he]
      have hst := fun f => step_none h3 hk hf (by omega) f
      have hT := h3.tick.turnsSince hc4 h.hR
      clear he hr
      have HZ := Lib.hid hz3; clear hz3
      go_enter Try.func44, Try.ntmps44
      go_wp2_with (first | (go_at_call 45; refine hth.mono ?_; rintro e1 w2 ⟨rfl, rfl⟩) | (go_at_call 7; refine (hnx _).mono ?_; rintro e1 w2 ⟨rfl, rfl⟩))
      refine (hst _).mono ?_
      rintro _ w4 ⟨rfl, rfl⟩
      go_wp2
      go_ret
      exact ⟨rfl, hT⟩
    | some n =>
      rw [rename_some hr hf]
      have hne0 : ¬ w.heap.size = p := by omega
      have hne1 : ¬ w.heap.size + 1 = p := by omega
      have hne2 : ¬ w.heap.size + 1 + 1 = p := by omega
      have hw1 := rename1_any h3.tick hc4 h.hR (fun b hb => h.lt hb) hok.ticked hN (n := n) (k := k) (t := t) hk (by omega) (hcs.cell hcd.cell hne0) (hcs.cell hck.cell hne1) (hcs.cell hct.cell hne2) (Nat.le_succ _) (by omega)
      have hst := step_some h3 hk hf (by omega) 60 #[.pointer (some ⟨w.heap.size, 0, none⟩), .pointer (some ⟨w.heap.size + 1, 0, none⟩), .pointer (some ⟨w.heap.size + 1 + 1, 0, none⟩)] enters_rename1 (fun v w' => v = 0 ∧ Turns w w' p (s.tick.named (.rename k t)) (ownL p mf mn vs vw fb) R) hw1
      have HZ := Lib.hid hz3; clear hz3 hr
      go_enter Try.func44, Try.ntmps44
      go_wp2_with (first | (go_at_call 45; refine hth.mono ?_; rintro e1 w2 ⟨rfl, rfl⟩) | (go_at_call 7; refine (hnx _).mono ?_; rintro e1 w2 ⟨rfl, rfl⟩))
      refine hst.mono ?_
      rintro _ w4 ⟨v, rfl, rfl, hT⟩
      go_wp2
      go_ret
      exact ⟨rfl, hT⟩

end Go.Proofs.Ytgckcnnnblggbaa
