/- Disk: a step of the disk is counted; the closure's contract is handed on. -/
import Derived.Test.YtgckcnnnblggbaaDk2
namespace Go.Proofs.Ytgckcnnnblggbaa
open Go.RowKit Go.Maps

section
variable {w : World} {p : Nat} {s : DSt} {R : Nat → Prop} {mf mn ms : Nat} {fb : List Nat} {vs vw : Value} {ss : List Value} {ws : List (List Value)} {e : TypeId}

theorem DiskP.widen (h : DiskP w p s R mf mn ms fb vs vw ss ws e) {R' : Nat → Prop} (hR : ∀ b, R b → R' b) (hs : ∀ b, R' b → b < w.heap.size ∧ b ∉ ownL p mf mn vs vw fb) : DiskP w p s R' mf mn ms fb vs vw ss ws e where
  cells := h.cells
  filesM := h.filesM
  namesM := h.namesM
  sureM := h.sureM
  count := h.count
  file := fun i b d hb hd => (h.file i b d hb hd).kept (Chg.refl (fun _ => False) w) (fun _ _ h => h) hR (fun h => h)
  stepsR := h.stepsR
  step := fun i v x hv hx => (h.step i v x hv hx).kept (Chg.refl (fun _ => False) w) (fun _ _ h => h) hR
  writesR := h.writesR
  count4 := h.count4
  write := fun i v x hv hx => (h.write i v x hv hx).kept (Chg.refl (fun _ => False) w) (fun _ _ h => h) hR
  apart := h.apart
  own := fun b hb => ⟨(h.own b hb).1, fun hr => (hs b hr).2 hb⟩
  shared := fun b hb => (hs b hb).1
  sureR := hR _ h.sureR

theorem DiskP.ne_p (h : DiskP w p s R mf mn ms fb vs vw ss ws e) : p ≠ mf ∧ p ≠ mn ∧ (∀ k, vs.ownBlock = some k → k ≠ p) ∧ (∀ k, vw.ownBlock = some k → k ≠ p) ∧ p ∉ fb := by
  have ha := h.apart
  simp only [ownL, List.nodup_cons, List.mem_cons, List.mem_append, Option.mem_toList] at ha
  grind
theorem DiskP.notR (h : DiskP w p s R mf mn ms fb vs vw ss ws e) {b : Nat} (hb : b ∈ ownL p mf mn vs vw fb) (x : Nat) (hx : R x) : x ≠ b := fun e => (h.own b hb).2 (e ▸ hx)

/-- the count of the steps goes up -/
theorem DiskP.tick (h : DiskP w p s R mf mn ms fb vs vw ss ws e) : DiskP (w.setCell ⟨p, 6, none⟩ (.int .i64 ((s.done + 1 : Nat) : Int))) p s.tick R mf mn ms fb vs vw ss ws e := by
  have hc : Chg (· = p) w (w.setCell ⟨p, 6, none⟩ (.int .i64 ((s.done + 1 : Nat) : Int))) := Chg.set _ rfl
  obtain ⟨n1, n2, n3, n4, n5⟩ := h.ne_p
  have hO : ∀ b, R b → ¬ b = p := fun b hb => h.notR mem_own_p b hb
  exact {
    cells := heap_set_cells _ h.cells
    filesM := hc.map h.filesM (Ne.symm n1)
    namesM := hc.map h.namesM (Ne.symm n2)
    sureM := hc.map h.sureM (hO _ h.sureR)
    count := h.count
    file := fun i b d hb hd => (h.file i b d hb hd).kept hc hO (fun _ h => h) (fun e => n5 (e ▸ List.mem_of_getElem? hb))
    stepsR := hc.row h.stepsR n3
    step := fun i v x hv hx => (h.step i v x hv hx).kept hc hO (fun _ h => h)
    writesR := hc.row h.writesR n4
    count4 := h.count4
    write := fun i v x hv hx => (h.write i v x hv hx).kept hc hO (fun _ h => h)
    apart := h.apart
    own := fun b hb => ⟨Nat.lt_of_lt_of_le (h.own b hb).1 hc.size, (h.own b hb).2⟩
    shared := fun b hb => Nat.lt_of_lt_of_le (h.shared b hb) hc.size
    sureR := h.sureR }
end

theorem Turns.of_parts {w w' : World} {p : Nat} {s' : DSt} {own : List Nat} {R : Nat → Prop} {mf mn ms : Nat} {fb : List Nat} {vs vw : Value} {ss : List Value} {ws : List (List Value)} {e : TypeId}
    (h : DiskP w' p s' (RNew R w w' (ownL p mf mn vs vw fb)) mf mn ms fb vs vw ss ws e) (hc : Chg (· ∈ own) w w') (ho : ∀ b ∈ ownL p mf mn vs vw fb, b ∈ own ∨ w.heap.size ≤ b) : Turns w w' p s' own R :=
  ⟨_, ⟨mf, mn, ms, fb, vs, vw, ss, ws, e, h, rfl⟩, hc, ho⟩
theorem rnew_ok {R : Nat → Prop} {w w' : World} {own own' : List Nat} (hR : ∀ b, R b → b < w.heap.size ∧ b ∉ own) (hs : w.heap.size ≤ w'.heap.size) (ho : ∀ b ∈ own', b ∈ own ∨ w.heap.size ≤ b) :
    ∀ b, RNew R w w' own' b → b < w'.heap.size ∧ b ∉ own' := by
  intro b hb
  rcases hb with hb | ⟨h1, h2, h3⟩
  · have := hR b hb
    exact ⟨by omega, fun hm => by rcases ho b hm with h | h; exact this.2 h; omega⟩
  · exact ⟨h2, h3⟩
theorem Turns.trans {w w1 w2 : World} {p : Nat} {s1 s2 : DSt} {own : List Nat} {R : Nat → Prop} (h : Turns w w1 p s1 own R) (hR : ∀ b, R b → b < w.heap.size ∧ b ∉ own)
    (k : ∀ own1, DiskAt w1 p s1 own1 (RNew R w w1 own1) → Turns w1 w2 p s2 own1 (RNew R w w1 own1)) : Turns w w2 p s2 own R := by
  obtain ⟨own1, h1, h2, h3⟩ := h
  obtain ⟨own2, k1, k2, k3⟩ := k own1 h1
  have h4 : ∀ b ∈ own2, b ∈ own ∨ w.heap.size ≤ b := fun b hb => by
    rcases k3 b hb with hb | hb
    · exact h3 b hb
    · exact .inr (Nat.le_trans h2.size hb)
  have hc : Chg (· ∈ own) w w2 := h2.trans k2 (fun x hx hlt => by rcases h3 x hx with h | h; exact h; omega)
  obtain ⟨mf, mn, ms, fb, vs, vw, ss, ws, e, hp, rfl⟩ := k1
  refine ⟨_, ⟨mf, mn, ms, fb, vs, vw, ss, ws, e, hp.widen (fun b hb => ?_) (rnew_ok hR hc.size h4), rfl⟩, hc, h4⟩
  rcases hb with (hb | ⟨h5, h6, h7⟩) | ⟨h5, h6, h7⟩
  · exact .inl hb
  · refine .inr ⟨h5, Nat.lt_of_lt_of_le h6 k2.size, fun hm => ?_⟩
    rcases k3 b hm with h | h
    · exact h7 h
    · omega
  · exact .inr ⟨Nat.le_trans h2.size h5, h6, h7⟩

section
variable {w : World} {p : Nat} {s : DSt} {R : Nat → Prop} {mf mn ms : Nat} {fb : List Nat} {vs vw : Value} {ss : List Value} {ws : List (List Value)} {e : TypeId}
theorem DiskP.hR (h : DiskP w p s R mf mn ms fb vs vw ss ws e) : ∀ b, R b → b < w.heap.size ∧ b ∉ ownL p mf mn vs vw fb := fun b hb => ⟨h.shared b hb, fun hm => (h.own b hm).2 hb⟩
theorem DiskP.ticked (h : DiskP w p s R mf mn ms fb vs vw ss ws e) : Turns w (w.setCell ⟨p, 6, none⟩ (.int .i64 ((s.done + 1 : Nat) : Int))) p s.tick (ownL p mf mn vs vw fb) R := by
  have hc : Chg (· ∈ ownL p mf mn vs vw fb) w (w.setCell ⟨p, 6, none⟩ (.int .i64 ((s.done + 1 : Nat) : Int))) := Chg.set _ mem_own_p
  exact .of_parts (h.tick.widen (fun b hb => .inl hb) (rnew_ok h.hR hc.size (fun b hb => .inl hb))) hc (fun b hb => .inl hb)
end

set_option maxHeartbeats 1000000 in
theorem step_none {w : World} {p : Nat} {s : DSt} {R : Nat → Prop} {mf mn ms : Nat} {fb : List Nat} {vs vw : Value} {ss : List Value} {ws : List (List Value)} {e : TypeId} (h : DiskP w p s R mf mn ms fb vs vw ss ws e)
    {k : List UInt8} (hk : k.length ≤ maxLen) (hf : nlFind s.names k = none) (hd : s.done < 4611686018427387904) (f : Value) :
    Calls Try.prog 34 #[.pointer (some ⟨p, 0, none⟩), .string ⟨k.toArray⟩, f] w fun e w' => e = .returned (.int .i64 7) ∧ w' = w.setCell ⟨p, 6, none⟩ (.int .i64 ((s.done + 1 : Nat) : Int)) := by
  have hth := there_any h.cells (mn := mn) (by rfl)
  have c2 := cell_of_heap h.cells (i := 2) (v := .map (some mn)) (by rfl)
  have c6 := cell_of_heap h.cells (i := 6) (v := .int .i64 (s.done : Int)) (by rfl)
  have z6 := frozen_of_heap (i := 6) h.cells
  have hl := look_name h.tick.namesM hk
  have hl2 : nlFind s.tick.names k = none := hf
  rw [hl2] at hl
  simp only [Option.getD_none, Option.isSome_none] at hl
  have hn : ((s.done + 1 : Nat) : Int) = (s.done : Int) + 1 := by omega
  rw [hn] at hl ⊢
  generalize (s.done : Int) = d at *
  go_enter Try.func34, Try.ntmps34
  go_wp2_with (go_at_call 45; refine hth.mono ?_; rintro e w1 ⟨rfl, rfl⟩)
  go_ret
  exact ⟨rfl, rfl⟩

end Go.Proofs.Ytgckcnnnblggbaa
