/- Texts of this claim, one behind the other: DkE, DkF, DkG, DkH. -/
import Derived.Test.YtlmdpcaikhdenaaGreatSl11
import Derived.Test.YtlmdpcaikhdenaaGreatSl01
import Derived.Lib.QuietBelow
import Derived.BigQuiet
set_option linter.unusedSimpArgs false
set_option linter.unusedVariables false
/- Disk: Write. -/
namespace Go.Proofs.YtlmdpcaikhdenaaGreat
open Go.RowKit Go.Maps

section
variable {w0 w : World} {p : Nat} {s : DSt} {R : Nat → Prop} {mf mn ms : Nat} {fb : List Nat} {vs vw : Value} {ss : List Value} {ws : List (List Value)} {e : TypeId}
/-- the disk stands, what is new since w0 is shared -/
theorem DiskP.since (h : DiskP w p s R mf mn ms fb vs vw ss ws e) (hc : Chg (· ∈ ownL p mf mn vs vw fb) w0 w) (hR : ∀ b, R b → b < w0.heap.size ∧ b ∉ ownL p mf mn vs vw fb) : DiskP w p s (RNew R w0 w (ownL p mf mn vs vw fb)) mf mn ms fb vs vw ss ws e :=
  h.widen (fun _ h => .inl h) (rnew_ok hR hc.size (fun _ h => .inl h))
theorem DiskP.turnsSince (h : DiskP w p s R mf mn ms fb vs vw ss ws e) (hc : Chg (· ∈ ownL p mf mn vs vw fb) w0 w) (hR : ∀ b, R b → b < w0.heap.size ∧ b ∉ ownL p mf mn vs vw fb) : Turns w0 w p s (ownL p mf mn vs vw fb) R :=
  .of_parts (h.since hc hR) hc (fun _ h => .inl h)
theorem DiskP.below (h : DiskP w p s R mf mn ms fb vs vw ss ws e) {w' : World} (hb : Below w.heap.size w w') : DiskP w' p s R mf mn ms fb vs vw ss ws e :=
  h.kept (Chg.of_below (O := fun _ => False) hb) (fun _ _ h => h) (fun _ _ h => h)
end

/-- Write, once the file is found -/
def DSt.putAt (s : DSt) (f : Nat) (at_ : Int) (b : List UInt8) : DSt × Nat :=
  if at_ < 0 ∨ ((s.stands f).length : Int) < at_ then (s, 2)
  else if (s.stands f).length < at_.toNat + b.length ∧ s.room < s.used + (at_.toNat + b.length - (s.stands f).length) then (s, 5)
  else (s.written ⟨f, false, at_.toNat, b⟩, 0)

theorem sumOf_used {N : Nat} {s : DSt} (h : s.Ok N) : s.used ≤ N * maxFile := by
  have := sumOf_le (fun n => (s.stands n).length) s.names (fun _ => false) maxFile h.stands_le
  have e : sumOf (fun n => (s.stands n).length) s.names (fun _ => false) = s.used := by rw [sumOf_end _ _ _ (fun _ => rfl)]; rfl
  rw [e] at this
  exact Nat.le_trans this (Nat.mul_le_mul_right _ h.manyNames)

theorem used_ge {s : DSt} {p : List UInt8 × Nat} (h : p ∈ s.names) : (s.stands p.2).length ≤ s.used := by
  unfold DSt.used usedOf
  have := List.mem_map_of_mem (f := fun p : List UInt8 × Nat => (s.stands p.2).length) h
  have key : ∀ (l : List Nat) (x : Nat), x ∈ l → x ≤ l.sum := by
    intro l
    induction l with
    | nil => intro x hx; cases hx
    | cons y r ih =>
      intro x hx
      rw [List.sum_cons]
      rcases List.mem_cons.1 hx with rfl | hx
      · omega
      · have := ih x hx; omega
  exact key _ _ this

set_option maxRecDepth 100000 in
set_option maxHeartbeats 4000000 in
theorem write1_any {w0 w : World} {p : Nat} {s : DSt} {R : Nat → Prop} {mf mn ms : Nat} {fb : List Nat} {vs vw : Value} {ss : List Value} {ws : List (List Value)} {e : TypeId} (h : DiskP w p s R mf mn ms fb vs vw ss ws e)
    (hc : Chg (· ∈ ownL p mf mn vs vw fb) w0 w) (hR : ∀ b, R b → b < w0.heap.size ∧ b ∉ ownL p mf mn vs vw fb) (hown : ∀ b ∈ ownL p mf mn vs vw fb, b < w0.heap.size) {N : Nat} (hok : s.Ok N) (hN : N < maxList) {n : Nat} {k : List UInt8} (hf : nlFind s.names k = some n)
    {bd ba bb : Nat} {at_ : Int} {xa : Option Addr} {xc : Nat} {l : List UInt8} (cd : w.cell? ⟨bd, 0, none⟩ = some (.pointer (some ⟨p, 0, none⟩))) (ca : w.cell? ⟨ba, 0, none⟩ = some (.int .i64 at_)) (cb : w.cell? ⟨bb, 0, none⟩ = some (.slice xa l.length xc)) (zb : w.frozen? ⟨bb, 0, none⟩ = false)
    (hd0 : w0.heap.size ≤ bd) (ha0 : w0.heap.size ≤ ba) (hb0 : w0.heap.size ≤ bb) (hbd : bb ≠ bd) (hba : bb ≠ ba) (hrow : RowAt w xa (l.map bv)) (hnil : xa = none → xc = 0) (hl : l.length ≤ 140737488355328) (h64 : -9223372036854775808 ≤ at_ ∧ at_ < 9223372036854775808) :
    Calls Tryz.prog 241 #[.int .i64 (n : Int), .pointer (some ⟨bd, 0, none⟩), .pointer (some ⟨ba, 0, none⟩), .pointer (some ⟨bb, 0, none⟩)] w fun e w' => ∃ v, e = .returned (.int .i64 v) ∧ v = ((s.putAt n at_ l).2 : Int) ∧ Turns w0 w' p (s.putAt n at_ l).1 (ownL p mf mn vs vw fb) R := by
  have hmx : maxList = 4194304 := rfl
  have hmf : maxFile = 1099511627776 := rfl
  have hn := (hok.names _ (nlFind_mem hf)).1
  have hge : (s.stands n).length ≤ s.used := used_ge (nlFind_mem hf)
  have hroom := hok.room
  have hnn : n ≤ 4194304 := by have := hok.manyFiles; omega
  obtain ⟨b, e', vd, vs', hfb, hfh, hbd', hbs, hlk⟩ := h.file_at (n := n) hn (by omega)
  have hlk0 : (Instr.lookup 107 (.map (some mf)) (.int .i64 (n : Int)) false).run Tryz.prog w = .ok (.pointer (some ⟨b, 0, none⟩)) w := hlk 0
  clear hlk
  obtain ⟨da, dc, rfl, _, _, _⟩ := hbd'.row
  have c1 := cell_of_heap h.cells (i := 1) (v := .map (some mf)) (by rfl)
  have c0 := cell_of_heap h.cells (i := 0) (v := .int .i64 (s.room : Int)) (by rfl)
  have f0 := cell_of_heap hfh (i := 0) (v := .slice da (s.stands n).length dc) (by rfl)
  have hst := hok.stands_le n
  have hT := h.turnsSince hc hR
  by_cases e1 : at_ < 0
  · have he : s.putAt n at_ l = (s, 2) := by unfold DSt.putAt; rw [if_pos (.inl e1)]
    rw [he]
    clear he
    have g1 : decide (at_ < 0) = true := by simpa using e1
    generalize (s.stands n).length = dl at *
    go_enter Tryz.func241, Tryz.ntmps241
    go_wp2
    go_ret
    exact ⟨_, rfl, rfl, hT⟩
  · have g1 : decide (at_ < 0) = false := by simpa using e1
    by_cases e2 : ((s.stands n).length : Int) < at_
    · have he : s.putAt n at_ l = (s, 2) := by unfold DSt.putAt; rw [if_pos (.inr e2)]
      rw [he]
      clear he
      have g2 : decide (((s.stands n).length : Int) < at_) = true := by simpa using e2
      generalize (s.stands n).length = dl at *
      go_enter Tryz.func241, Tryz.ntmps241
      go_wp2
      go_ret
      exact ⟨_, rfl, rfl, hT⟩
    · have g2 : decide (((s.stands n).length : Int) < at_) = false := by simpa using e2
      obtain ⟨q, rfl⟩ : ∃ q : Nat, at_ = (q : Int) := ⟨at_.toNat, by omega⟩
      have he : s.putAt n q l = if (s.stands n).length < q + l.length ∧ s.room < s.used + (q + l.length - (s.stands n).length) then (s, 5) else (s.written ⟨n, false, q, l⟩, 0) := by unfold DSt.putAt; rw [if_neg (by rintro (h | h); exact e1 h; exact e2 h)]; simp
      rw [he]
      clear he
      have hdl : q ≤ (s.stands n).length := by omega
      generalize hS : (s.stands n).length = dl at *
      have hdl2 : dl ≤ 1099511627776 := hst
      have hb0p : bb ≠ p := fun e => by have := hown p mem_own_p; omega
      have hbno : ∀ x, x < w0.heap.size → x ≠ bb := fun x hx e => by omega
      by_cases e3 : dl < q + l.length
      · have g3 : decide ((dl : Int) < (q : Int) + (l.length : Int)) = true := by simp; omega
        have hU := fun d os => Calls.regrown_of (used_any (h.below (below_regrown w d os)) hok (by omega))
        have k0 := cell_regrown c0
        have kd := cell_regrown cd
        have hus : s.used ≤ 4611686018427387904 := by have := sumOf_used hok; have := Nat.mul_le_mul_right maxFile (show N ≤ 4194304 by omega); omega
        have hwr : IntKind.i64.wrap ((s.used : Int) + ((q : Int) + (l.length : Int) - (dl : Int))) = (s.used : Int) + ((q : Int) + (l.length : Int) - (dl : Int)) := Go.IntWalk.i64_in _ (by omega)
        have HW := Lib.hid hwr; clear hwr
        by_cases e4 : s.room < s.used + (q + l.length - dl)
        · rw [if_pos ⟨e3, e4⟩]
          go_enter Tryz.func241, Tryz.ntmps241
          go_wp2
          refine wp_region_quiet_belowP rfl (by kernel_rfl) ?_
          repeat (quiet_step (exact hU _ _))
          refine wpQuiet_nil ?_
          intro w4 hb4
          rw [HW.out]
          have g4 : decide ((s.room : Int) < (s.used : Int) + ((q : Int) + (l.length : Int) - (dl : Int))) = true := by simp; omega
          have hT4 := (h.below hb4).turnsSince (hc.trans (Chg.of_below hb4) (fun _ h _ => h)) hR
          go_wp2
          go_ret
          exact ⟨_, rfl, rfl, hT4⟩
        · rw [if_neg (fun h => e4 h.2)]
          have HQ : q + l.length ≤ maxFile := by omega
          go_enter Tryz.func241, Tryz.ntmps241
          go_wp2
          refine wp_region_quiet_belowP rfl (by kernel_rfl) ?_
          repeat (quiet_step (exact hU _ _))
          refine wpQuiet_nil ?_
          intro w4 hb4
          rw [HW.out]
          have g4 : decide ((s.room : Int) < (s.used : Int) + ((q : Int) + (l.length : Int) - (dl : Int))) = false := by simp; omega
          have h4 := h.below hb4
          have hc04 := hc.trans (Chg.of_below (O := (· ∈ ownL p mf mn vs vw fb)) hb4) (fun _ h _ => h)
          have cd4 := (hb4.cell (p := ⟨bd, 0, none⟩) (cell_lt cd)).trans cd
          have ca4 := (hb4.cell (p := ⟨ba, 0, none⟩) (cell_lt ca)).trans ca
          have cb4 := (hb4.cell (p := ⟨bb, 0, none⟩) (cell_lt cb)).trans cb
          have hcl := clone_any xa xc l w4 hnil (hrow.below hb4) hl
          clear cd ca c0 c1 f0 hlk0 hT
          go_wp2_with (go_at_call 70; refine hcl.mono ?_; rintro _ w5 ⟨U, rfl, hU5, hb5⟩; obtain ⟨ua, uc, rfl, _⟩ := hU5.row; have cb5 := (hb5.cell (p := ⟨bb, 0, none⟩) (cell_lt cb4)).trans cb4; have zb5 : w5.frozen? ⟨bb, 0, none⟩ = false := (hb5.frozen (p := ⟨bb, 0, none⟩) (cell_lt cb4)).trans ((hb4.frozen (p := ⟨bb, 0, none⟩) (cell_lt cb)).trans zb); have cd5 := (hb5.cell (p := ⟨bd, 0, none⟩) (cell_lt cd4)).trans cd4)
          have hc45 : Chg (· ∈ ownL p mf mn vs vw fb) w0 w5 := hc04.trans (Chg.of_below (O := (· ∈ ownL p mf mn vs vw fb)) hb5) (fun _ h _ => h)
          have hc56 : Chg (· = bb) w5 (w5.setCell ⟨bb, 0, none⟩ (.slice ua l.length uc)) := Chg.set _ rfl
          have hc06 : Chg (· ∈ ownL p mf mn vs vw fb) w0 (w5.setCell ⟨bb, 0, none⟩ (.slice ua l.length uc)) := ⟨hc45.os, hc45.tape, hc45.output, by simpa [World.setCell] using hc45.size, fun x hx ho => (hc56.block x (Nat.lt_of_lt_of_le hx hc45.size) (by show x ≠ bb; omega)).trans (hc45.block x hx ho)⟩
          have h6 := ((h4.below hb5).kept hc56 (fun x hx => by have := (hR x hx).1; show x ≠ bb; omega) (fun x hx => by have := hown x hx; show x ≠ bb; omega)).since hc06 hR
          have hbb4 : bb < w4.heap.size := cell_lt cb4
          have hw0s : w0.heap.size ≤ w4.heap.size := hc04.size
          have hs5 := hb5.size
          have hs6 : (w5.setCell ⟨bb, 0, none⟩ (.slice ua l.length uc)).heap.size = w5.heap.size := by simp [World.setCell]
          have cb6 : (w5.setCell ⟨bb, 0, none⟩ (.slice ua l.length uc)).cell? ⟨bb, 0, none⟩ = some (.slice ua l.length uc) := by go_simp
          have ca6 := hc56.cell ((hb5.cell (p := ⟨ba, 0, none⟩) (cell_lt ca4)).trans ca4) (by show ¬ (ba = bb); exact fun e => hba e.symm)
          have hnew : ∀ y, w0.heap.size ≤ y → y < w5.heap.size → RNew R w0 (w5.setCell ⟨bb, 0, none⟩ (.slice ua l.length uc)) (ownL p mf mn vs vw fb) y := fun y l1 l2 => .inr ⟨l1, by omega, fun hm => by have := hown y hm; omega⟩
          have hlay : LayIn (w5.setCell ⟨bb, 0, none⟩ (.slice ua l.length uc)) (RNew R w0 (w5.setCell ⟨bb, 0, none⟩ (.slice ua l.length uc)) (ownL p mf mn vs vw fb)) (.func (.func 243) #[] #[.pointer (some ⟨ba, 0, none⟩), .pointer (some ⟨bb, 0, none⟩)]) ⟨n, false, q, l⟩ :=
            ⟨_, _, .slice ua l.length uc, rfl, ⟨_, rfl, hnew _ ha0 (Nat.lt_of_lt_of_le (cell_lt ca4) hb5.size), ca6⟩, ⟨_, rfl, hnew _ hb0 (Nat.lt_of_lt_of_le (cell_lt cb4) hb5.size), cb6⟩, hU5.kept hc56 (fun y hy => by have := hy.1; show y ≠ bb; omega) (fun y hy => hnew y (Nat.le_trans hw0s hy.1) hy.2)⟩
          have hwr6 := written_any h6 (x := ⟨n, false, q, l⟩) hlay hok hN hn HQ
          refine hwr6.mono ?_
          rintro _ w7 ⟨rfl, hT7⟩
          go_wp2
          go_ret
          exact ⟨_, rfl, rfl, Turns.after hc06 hR hT7⟩
      · rw [if_neg (fun h => e3 h.1)]
        have HQ : q + l.length ≤ maxFile := by omega
        have g3 : decide ((dl : Int) < (q : Int) + (l.length : Int)) = false := by simp; omega
        go_enter Tryz.func241, Tryz.ntmps241
        go_wp2
        go_quiet (fail)
        have hb4 : Below w.heap.size w (w.drewN nq) := below_drewN (Below.refl _ _) nq
        generalize w.drewN nq = w4 at *
        have h4 := h.below hb4
        have hc04 := hc.trans (Chg.of_below (O := (· ∈ ownL p mf mn vs vw fb)) hb4) (fun _ h _ => h)
        have cd4 := (hb4.cell (p := ⟨bd, 0, none⟩) (cell_lt cd)).trans cd
        have ca4 := (hb4.cell (p := ⟨ba, 0, none⟩) (cell_lt ca)).trans ca
        have cb4 := (hb4.cell (p := ⟨bb, 0, none⟩) (cell_lt cb)).trans cb
        have hcl := clone_any xa xc l w4 hnil (hrow.below hb4) hl
        clear cd ca c0 c1 f0 hlk0 hT
        go_wp2_with (go_at_call 70; refine hcl.mono ?_; rintro _ w5 ⟨U, rfl, hU5, hb5⟩; obtain ⟨ua, uc, rfl, _⟩ := hU5.row; have cb5 := (hb5.cell (p := ⟨bb, 0, none⟩) (cell_lt cb4)).trans cb4; have zb5 : w5.frozen? ⟨bb, 0, none⟩ = false := (hb5.frozen (p := ⟨bb, 0, none⟩) (cell_lt cb4)).trans ((hb4.frozen (p := ⟨bb, 0, none⟩) (cell_lt cb)).trans zb); have cd5 := (hb5.cell (p := ⟨bd, 0, none⟩) (cell_lt cd4)).trans cd4)
        have hc45 : Chg (· ∈ ownL p mf mn vs vw fb) w0 w5 := hc04.trans (Chg.of_below (O := (· ∈ ownL p mf mn vs vw fb)) hb5) (fun _ h _ => h)
        have hc56 : Chg (· = bb) w5 (w5.setCell ⟨bb, 0, none⟩ (.slice ua l.length uc)) := Chg.set _ rfl
        have hc06 : Chg (· ∈ ownL p mf mn vs vw fb) w0 (w5.setCell ⟨bb, 0, none⟩ (.slice ua l.length uc)) := ⟨hc45.os, hc45.tape, hc45.output, by simpa [World.setCell] using hc45.size, fun x hx ho => (hc56.block x (Nat.lt_of_lt_of_le hx hc45.size) (by show x ≠ bb; omega)).trans (hc45.block x hx ho)⟩
        have h6 := ((h4.below hb5).kept hc56 (fun x hx => by have := (hR x hx).1; show x ≠ bb; omega) (fun x hx => by have := hown x hx; show x ≠ bb; omega)).since hc06 hR
        have hbb4 : bb < w4.heap.size := cell_lt cb4
        have hw0s : w0.heap.size ≤ w4.heap.size := hc04.size
        have hs5 := hb5.size
        have hs6 : (w5.setCell ⟨bb, 0, none⟩ (.slice ua l.length uc)).heap.size = w5.heap.size := by simp [World.setCell]
        have cb6 : (w5.setCell ⟨bb, 0, none⟩ (.slice ua l.length uc)).cell? ⟨bb, 0, none⟩ = some (.slice ua l.length uc) := by go_simp
        have ca6 := hc56.cell ((hb5.cell (p := ⟨ba, 0, none⟩) (cell_lt ca4)).trans ca4) (by show ¬ (ba = bb); exact fun e => hba e.symm)
        have hnew : ∀ y, w0.heap.size ≤ y → y < w5.heap.size → RNew R w0 (w5.setCell ⟨bb, 0, none⟩ (.slice ua l.length uc)) (ownL p mf mn vs vw fb) y := fun y l1 l2 => .inr ⟨l1, by omega, fun hm => by have := hown y hm; omega⟩
        have hlay : LayIn (w5.setCell ⟨bb, 0, none⟩ (.slice ua l.length uc)) (RNew R w0 (w5.setCell ⟨bb, 0, none⟩ (.slice ua l.length uc)) (ownL p mf mn vs vw fb)) (.func (.func 243) #[] #[.pointer (some ⟨ba, 0, none⟩), .pointer (some ⟨bb, 0, none⟩)]) ⟨n, false, q, l⟩ :=
          ⟨_, _, .slice ua l.length uc, rfl, ⟨_, rfl, hnew _ ha0 (Nat.lt_of_lt_of_le (cell_lt ca4) hb5.size), ca6⟩, ⟨_, rfl, hnew _ hb0 (Nat.lt_of_lt_of_le (cell_lt cb4) hb5.size), cb6⟩, hU5.kept hc56 (fun y hy => by have := hy.1; show y ≠ bb; omega) (fun y hy => hnew y (Nat.le_trans hw0s hy.1) hy.2)⟩
        have hwr6 := written_any h6 (x := ⟨n, false, q, l⟩) hlay hok hN hn HQ
        refine hwr6.mono ?_
        rintro _ w7 ⟨rfl, hT7⟩
        go_wp2
        go_ret
        exact ⟨_, rfl, rfl, Turns.after hc06 hR hT7⟩

end Go.Proofs.YtlmdpcaikhdenaaGreat
/- Disk: Write, Cut: the methods. -/
namespace Go.Proofs.YtlmdpcaikhdenaaGreat
open Go.RowKit Go.Maps

theorem put_some {s : DSt} {k : List UInt8} {f : Nat} (hf : nlFind s.names k = some f) (at_ : Int) (b : List UInt8) : s.put k at_ b = s.tick.putAt f at_ b := by
  unfold DSt.put
  rw [hf]
  simp only []
  unfold DSt.putAt
  have e1 : s.tick.stands f = s.stands f := rfl
  have e2 : s.tick.used = s.used := rfl
  have e3 : s.tick.room = s.room := rfl
  rw [e1, e2, e3]
  split
  · rfl
  · split
    · rfl
    · rfl
theorem DSt.Ok.ticked {s : DSt} {N : Nat} (h : s.Ok N) : s.tick.Ok (N + 1) where
  room := h.room
  names := h.names
  sure := h.sure
  rising := h.rising
  risingSure := h.risingSure
  steps := h.steps
  writes := h.writes
  files := h.files
  manyFiles := Nat.le_succ_of_le h.manyFiles
  manySteps := Nat.le_succ_of_le h.manySteps
  manyWrites := Nat.le_succ_of_le h.manyWrites
  manyNames := Nat.le_succ_of_le h.manyNames
  manySure := Nat.le_succ_of_le h.manySure
  done := Nat.succ_le_succ h.done
theorem enters_write1 : enters 241 := fun args w => by go_simp

/-- bytes do not lie in the disk's own struct -/
theorem DiskP.bytes_ne {w : World} {p : Nat} {s : DSt} {R : Nat → Prop} {mf mn ms : Nat} {fb : List Nat} {vs vw : Value} {ss : List Value} {ws : List (List Value)} {e : TypeId} (h : DiskP w p s R mf mn ms fb vs vw ss ws e) {xa : Option Addr} {l : List UInt8} (hrow : RowAt w xa (l.map bv)) :
    l.map bv ≠ [] → ∀ x, xa = some x → ¬ x.block = p := by
  rintro hx x rfl ex
  obtain ⟨b, off, e1, hc⟩ := hrow hx
  cases e1
  cases ex
  cases l with
  | nil => exact hx rfl
  | cons y r =>
    have := hc 0 (bv y) rfl
    obtain ⟨a1, c1, rfl⟩ := row_slice h.stepsR
    obtain ⟨a2, c2, rfl⟩ := row_slice h.writesR
    have hcell := h.cells
    simp only [World.cell?, hcell, Nat.add_zero] at this
    revert this
    match off with
    | 0 | 1 | 2 | 3 | 4 | 5 | 6 => simp [bv]
    | n + 7 => simp
theorem Boxed.from_chg {O : Nat → Prop} {w w' : World} {b : Nat} {t : TypeId} {v : Value} (h : Boxed w b t v) (hc : Chg O w w') (hO : ¬ O b) : Boxed w' b t v := (hc.block b (heap_lt h) hO).trans h

set_option maxRecDepth 100000 in
set_option maxHeartbeats 4000000 in
theorem Write_any {w : World} {p : Nat} {s : DSt} {R : Nat → Prop} {mf mn ms : Nat} {fb : List Nat} {vs vw : Value} {ss : List Value} {ws : List (List Value)} {e : TypeId} (h : DiskP w p s R mf mn ms fb vs vw ss ws e)
    {k : List UInt8} (hk : k.length ≤ maxLen) {N : Nat} (hok : s.Ok N) (hN : N + 1 < maxList)
    {at_ : Int} {xa : Option Addr} {xc : Nat} {l : List UInt8} (hrow : RowAt w xa (l.map bv)) (hnil : xa = none → xc = 0) (hl : l.length ≤ 140737488355328) (h64 : -9223372036854775808 ≤ at_ ∧ at_ < 9223372036854775808) :
    Calls Tryz.prog 226 #[.pointer (some ⟨p, 0, none⟩), .string ⟨k.toArray⟩, .int .i64 at_, .slice xa l.length xc] w fun e w' => e = .returned (.int .i64 ((s.put k at_ l).2 : Int)) ∧ Turns w w' p (s.put k at_ l).1 (ownL p mf mn vs vw fb) R := by
  obtain ⟨w3, hw3⟩ : ∃ w3, ((w.alloc (.cells #[.pointer (some ⟨p, 0, none⟩)] 45)).alloc (.cells #[.int .i64 at_] 2)).alloc (.cells #[.slice xa l.length xc] 26) = w3 := ⟨_, rfl⟩
  have hb3 : Below w.heap.size w w3 := by rw [← hw3]; exact ((below_alloc w _).alloc (by simp) _).alloc (by simp; omega) _
  have hz3 : w3.heap.size = w.heap.size + 1 + 1 + 1 := by rw [← hw3]; simp
  have hcd : Boxed w3 w.heap.size 45 (.pointer (some ⟨p, 0, none⟩)) := by rw [← hw3]; exact ((Boxed.new _ _ _).alloc _).alloc _
  have hca : Boxed w3 (w.heap.size + 1) 2 (.int .i64 at_) := by rw [← hw3]; have := (Boxed.new (w.alloc (.cells #[.pointer (some ⟨p, 0, none⟩)] 45)) 2 (.int .i64 at_)).alloc (.cells #[.slice xa l.length xc] 26); rwa [World.size_alloc] at this
  have hcb : Boxed w3 (w.heap.size + 1 + 1) 26 (.slice xa l.length xc) := by rw [← hw3]; have := Boxed.new ((w.alloc (.cells #[.pointer (some ⟨p, 0, none⟩)] 45)).alloc (.cells #[.int .i64 at_] 2)) 26 (.slice xa l.length xc); rwa [World.size_alloc, World.size_alloc] at this
  have h3 := h.below hb3
  have hd := hok.done
  have hmx : maxList = 4194304 := rfl
  have hplt := heap_lt h.cells
  have hc4 : Chg (· ∈ ownL p mf mn vs vw fb) w (w3.setCell ⟨p, 6, none⟩ (.int .i64 ((s.done + 1 : Nat) : Int))) := (Chg.of_below hb3).trans (Chg.set _ mem_own_p) (fun _ h _ => h)
  have hcs : Chg (· = p) w3 (w3.setCell ⟨p, 6, none⟩ (.int .i64 ((s.done + 1 : Nat) : Int))) := Chg.set _ rfl
  cases hf : nlFind s.names k with
  | none =>
    have he : s.put k at_ l = (s.tick, 7) := by unfold DSt.put; rw [hf]
    rw [he]
    have hst := fun f => step_none h3 hk hf (by omega) f
    have hT := h3.tick.turnsSince hc4 h.hR
    clear he
    have HZ := Lib.hid hz3; clear hz3
    have hcd1 := hcd.cell
    go_enter Tryz.func226, Tryz.ntmps226
    go_wp2_with fail
    refine (hst _).mono ?_
    rintro _ w4 ⟨rfl, rfl⟩
    go_wp2
    go_ret
    exact ⟨rfl, hT⟩
  | some n =>
    rw [put_some hf]
    have hq0 : w.heap.size + 1 + 1 ≠ w.heap.size ∧ w.heap.size + 1 + 1 ≠ w.heap.size + 1 := by omega
    have hne0 : ¬ w.heap.size = p := by omega
    have hne1 : ¬ w.heap.size + 1 = p := by omega
    have hne2 : ¬ w.heap.size + 1 + 1 = p := by omega
    have hw1 := write1_any h3.tick hc4 h.hR (fun b hb => h.lt hb) hok.ticked hN (k := k) hf (hcs.cell hcd.cell hne0) (hcs.cell hca.cell hne1) (hcs.cell hcb.cell hne2) ((Boxed.from_chg hcb hcs hne2).frozen) (Nat.le_refl _) (Nat.le_succ _) (by omega) hq0.1 hq0.2 ((hrow.below hb3).chg hcs (h3.bytes_ne (hrow.below hb3))) hnil hl h64
    have hst := step_some h3 hk hf (by omega) 241 #[.pointer (some ⟨w.heap.size, 0, none⟩), .pointer (some ⟨w.heap.size + 1, 0, none⟩), .pointer (some ⟨w.heap.size + 1 + 1, 0, none⟩)] enters_write1 (fun v w' => v = ((s.tick.putAt n at_ l).2 : Int) ∧ Turns w w' p (s.tick.putAt n at_ l).1 (ownL p mf mn vs vw fb) R) hw1
    have HZ := Lib.hid hz3; clear hz3
    have hcd1 := hcd.cell
    go_enter Tryz.func226, Tryz.ntmps226
    go_wp2_with fail
    refine hst.mono ?_
    rintro _ w4 ⟨v, rfl, rfl, hT⟩
    go_wp2
    go_ret
    exact ⟨rfl, hT⟩

end Go.Proofs.YtlmdpcaikhdenaaGreat
/- Disk: Cut. -/
namespace Go.Proofs.YtlmdpcaikhdenaaGreat
open Go.RowKit Go.Maps

/-- Cut, once the file is found -/
def DSt.cutAt (s : DSt) (f : Nat) (size : Int) : DSt × Nat :=
  if size < 0 ∨ ((s.stands f).length : Int) < size then (s, 2) else (s.written ⟨f, true, size.toNat, []⟩, 0)
theorem cut_some {s : DSt} {k : List UInt8} {f : Nat} (hf : nlFind s.names k = some f) (size : Int) : s.cut k size = s.tick.cutAt f size := by
  unfold DSt.cut
  rw [hf]
  simp only []
  unfold DSt.cutAt
  have e1 : s.tick.stands f = s.stands f := rfl
  rw [e1]
  split <;> rfl
theorem enters_cut1 : enters 230 := fun args w => by go_simp

set_option maxRecDepth 100000 in
set_option maxHeartbeats 4000000 in
theorem cut1_any {w0 w : World} {p : Nat} {s : DSt} {R : Nat → Prop} {mf mn ms : Nat} {fb : List Nat} {vs vw : Value} {ss : List Value} {ws : List (List Value)} {e : TypeId} (h : DiskP w p s R mf mn ms fb vs vw ss ws e)
    (hc : Chg (· ∈ ownL p mf mn vs vw fb) w0 w) (hR : ∀ b, R b → b < w0.heap.size ∧ b ∉ ownL p mf mn vs vw fb) (hown : ∀ b ∈ ownL p mf mn vs vw fb, b < w0.heap.size) {N : Nat} (hok : s.Ok N) (hN : N < maxList) {n : Nat} {k : List UInt8} (hf : nlFind s.names k = some n)
    {bd ba : Nat} {size : Int} (cd : w.cell? ⟨bd, 0, none⟩ = some (.pointer (some ⟨p, 0, none⟩))) (ca : w.cell? ⟨ba, 0, none⟩ = some (.int .i64 size)) (ha0 : w0.heap.size ≤ ba) (h64 : -9223372036854775808 ≤ size ∧ size < 9223372036854775808) :
    Calls Tryz.prog 230 #[.int .i64 (n : Int), .pointer (some ⟨ba, 0, none⟩), .pointer (some ⟨bd, 0, none⟩)] w fun e w' => ∃ v, e = .returned (.int .i64 v) ∧ v = ((s.cutAt n size).2 : Int) ∧ Turns w0 w' p (s.cutAt n size).1 (ownL p mf mn vs vw fb) R := by
  have hmx : maxList = 4194304 := rfl
  have hmf : maxFile = 1099511627776 := rfl
  have hn := (hok.names _ (nlFind_mem hf)).1
  have hnn : n ≤ 4194304 := by have := hok.manyFiles; omega
  obtain ⟨b, e', vd, vs', hfb, hfh, hbd', hbs, hlk⟩ := h.file_at (n := n) hn (by omega)
  obtain ⟨da, dc, rfl, _, _, _⟩ := hbd'.row
  have c1 := cell_of_heap h.cells (i := 1) (v := .map (some mf)) (by rfl)
  have f0 := cell_of_heap hfh (i := 0) (v := .slice da (s.stands n).length dc) (by rfl)
  have hst := hok.stands_le n
  have hT := fun nq => (h.turnsSince hc hR).drewN nq
  by_cases e1 : size < 0
  · have he : s.cutAt n size = (s, 2) := by unfold DSt.cutAt; rw [if_pos (.inl e1)]
    rw [he]
    clear he
    have g1 : decide (size < 0) = true := by simpa using e1
    generalize (s.stands n).length = dl at *
    go_enter Tryz.func230, Tryz.ntmps230
    go_wp2
    go_quiet (fail)
    go_wp2
    go_ret
    exact ⟨_, rfl, rfl, hT _⟩
  · have g1 : decide (size < 0) = false := by simpa using e1
    by_cases e2 : ((s.stands n).length : Int) < size
    · have he : s.cutAt n size = (s, 2) := by unfold DSt.cutAt; rw [if_pos (.inr e2)]
      rw [he]
      clear he
      have g2 : decide (((s.stands n).length : Int) < size) = true := by simpa using e2
      generalize (s.stands n).length = dl at *
      go_enter Tryz.func230, Tryz.ntmps230
      go_wp2
      go_quiet (fail)
      go_wp2
      go_ret
      exact ⟨_, rfl, rfl, hT _⟩
    · have g2 : decide (((s.stands n).length : Int) < size) = false := by simpa using e2
      obtain ⟨q, rfl⟩ : ∃ q : Nat, size = (q : Int) := ⟨size.toNat, by omega⟩
      have he : s.cutAt n q = (s.written ⟨n, true, q, []⟩, 0) := by unfold DSt.cutAt; rw [if_neg (by rintro (h | h); exact e1 h; exact e2 h)]; simp
      rw [he]
      clear he
      have HQ : q ≤ maxFile := by omega
      generalize hS : (s.stands n).length = dl at *
      go_enter Tryz.func230, Tryz.ntmps230
      go_wp2
      go_quiet (fail)
      have hb4 : Below w.heap.size w (w.drewN nq) := below_drewN (Below.refl _ _) nq
      have h4 := h.below hb4
      have hc04 := hc.trans (Chg.of_below (O := (· ∈ ownL p mf mn vs vw fb)) hb4) (fun _ h _ => h)
      have cd4 := (hb4.cell (p := ⟨bd, 0, none⟩) (cell_lt cd)).trans cd
      have ca4 := (hb4.cell (p := ⟨ba, 0, none⟩) (cell_lt ca)).trans ca
      generalize w.drewN nq = w4 at *
      clear c1 f0 hlk
      have hlay : LayIn w4 (RNew R w0 w4 (ownL p mf mn vs vw fb)) (.func (.func 232) #[] #[.pointer (some ⟨ba, 0, none⟩)]) ⟨n, true, q, []⟩ :=
        ⟨_, rfl, ⟨_, rfl, .inr ⟨ha0, cell_lt ca4, fun hm => by have := hown _ hm; omega⟩, ca4⟩⟩
      have hwr := written_any (h4.since hc04 hR) (x := ⟨n, true, q, []⟩) hlay hok hN hn HQ
      go_wp2_with (go_at_call 231; refine hwr.mono ?_; rintro _ w7 ⟨rfl, hT7⟩)
      go_ret
      exact ⟨_, rfl, rfl, Turns.after hc04 hR hT7⟩

set_option maxRecDepth 100000 in
set_option maxHeartbeats 4000000 in
theorem Cut_any {w : World} {p : Nat} {s : DSt} {R : Nat → Prop} {mf mn ms : Nat} {fb : List Nat} {vs vw : Value} {ss : List Value} {ws : List (List Value)} {e : TypeId} (h : DiskP w p s R mf mn ms fb vs vw ss ws e)
    {k : List UInt8} (hk : k.length ≤ maxLen) {N : Nat} (hok : s.Ok N) (hN : N + 1 < maxList) {size : Int} (h64 : -9223372036854775808 ≤ size ∧ size < 9223372036854775808) :
    Calls Tryz.prog 221 #[.pointer (some ⟨p, 0, none⟩), .string ⟨k.toArray⟩, .int .i64 size] w fun e w' => e = .returned (.int .i64 ((s.cut k size).2 : Int)) ∧ Turns w w' p (s.cut k size).1 (ownL p mf mn vs vw fb) R := by
  obtain ⟨w3, hw3⟩ : ∃ w3, (w.alloc (.cells #[.pointer (some ⟨p, 0, none⟩)] 45)).alloc (.cells #[.int .i64 size] 2) = w3 := ⟨_, rfl⟩
  have hb3 : Below w.heap.size w w3 := by rw [← hw3]; exact (below_alloc w _).alloc (by simp) _
  have hz3 : w3.heap.size = w.heap.size + 1 + 1 := by rw [← hw3]; simp
  have hcd : Boxed w3 w.heap.size 45 (.pointer (some ⟨p, 0, none⟩)) := by rw [← hw3]; exact (Boxed.new _ _ _).alloc _
  have hca : Boxed w3 (w.heap.size + 1) 2 (.int .i64 size) := by rw [← hw3]; have := Boxed.new (w.alloc (.cells #[.pointer (some ⟨p, 0, none⟩)] 45)) 2 (.int .i64 size); rwa [World.size_alloc] at this
  have h3 := h.below hb3
  have hd := hok.done
  have hmx : maxList = 4194304 := rfl
  have hplt := heap_lt h.cells
  have hc4 : Chg (· ∈ ownL p mf mn vs vw fb) w (w3.setCell ⟨p, 6, none⟩ (.int .i64 ((s.done + 1 : Nat) : Int))) := (Chg.of_below hb3).trans (Chg.set _ mem_own_p) (fun _ h _ => h)
  have hcs : Chg (· = p) w3 (w3.setCell ⟨p, 6, none⟩ (.int .i64 ((s.done + 1 : Nat) : Int))) := Chg.set _ rfl
  have hcd1 := hcd.cell
  cases hf : nlFind s.names k with
  | none =>
    have he : s.cut k size = (s.tick, 7) := by unfold DSt.cut; rw [hf]
    rw [he]
    have hst := fun f => step_none h3 hk hf (by omega) f
    have hT := h3.tick.turnsSince hc4 h.hR
    clear he
    have HZ := Lib.hid hz3; clear hz3
    go_enter Tryz.func221, Tryz.ntmps221
    go_wp2_with fail
    refine (hst _).mono ?_
    rintro _ w4 ⟨rfl, rfl⟩
    go_wp2
    go_ret
    exact ⟨rfl, hT⟩
  | some n =>
    rw [cut_some hf]
    have hne0 : ¬ w.heap.size = p := by omega
    have hne1 : ¬ w.heap.size + 1 = p := by omega
    have hw1 := cut1_any h3.tick hc4 h.hR (fun b hb => h.lt hb) hok.ticked hN (k := k) hf (hcs.cell hcd.cell hne0) (hcs.cell hca.cell hne1) (Nat.le_succ _) h64
    have hst := step_some h3 hk hf (by omega) 230 #[.pointer (some ⟨w.heap.size + 1, 0, none⟩), .pointer (some ⟨w.heap.size, 0, none⟩)] enters_cut1 (fun v w' => v = ((s.tick.cutAt n size).2 : Int) ∧ Turns w w' p (s.tick.cutAt n size).1 (ownL p mf mn vs vw fb) R) hw1
    have HZ := Lib.hid hz3; clear hz3
    go_enter Tryz.func221, Tryz.ntmps221
    go_wp2_with fail
    refine hst.mono ?_
    rintro _ w4 ⟨v, rfl, rfl, hT⟩
    go_wp2
    go_ret
    exact ⟨rfl, hT⟩

end Go.Proofs.YtlmdpcaikhdenaaGreat
/- Disk: Remove, Rename. -/
namespace Go.Proofs.YtlmdpcaikhdenaaGreat
open Go.RowKit Go.Maps

theorem remove_some {s : DSt} {k : List UInt8} {n : Nat} (hf : nlFind s.names k = some n) : s.remove k = (s.tick.named (.remove k), 0) := by unfold DSt.remove; rw [hf]; rfl
theorem enters_remove1 : enters 235 := fun args w => by go_simp

set_option maxRecDepth 100000 in
set_option maxHeartbeats 4000000 in
theorem remove1_any {w0 w : World} {p : Nat} {s : DSt} {R : Nat → Prop} {mf mn ms : Nat} {fb : List Nat} {vs vw : Value} {ss : List Value} {ws : List (List Value)} {e : TypeId} (h : DiskP w p s R mf mn ms fb vs vw ss ws e)
    (hc : Chg (· ∈ ownL p mf mn vs vw fb) w0 w) (hR : ∀ b, R b → b < w0.heap.size ∧ b ∉ ownL p mf mn vs vw fb) (hown : ∀ b ∈ ownL p mf mn vs vw fb, b < w0.heap.size) {N : Nat} (hok : s.Ok N) (hN : N < maxList) {n : Nat} {k : List UInt8} (hk : k.length ≤ maxLen)
    {bd bk : Nat} (cd : w.cell? ⟨bd, 0, none⟩ = some (.pointer (some ⟨p, 0, none⟩))) (ck : w.cell? ⟨bk, 0, none⟩ = some (.string ⟨k.toArray⟩)) (hk0 : w0.heap.size ≤ bk) :
    Calls Tryz.prog 235 #[.int .i64 (n : Int), .pointer (some ⟨bd, 0, none⟩), .pointer (some ⟨bk, 0, none⟩)] w fun e w' => ∃ v, e = .returned (.int .i64 v) ∧ v = 0 ∧ Turns w0 w' p (s.named (.remove k)) (ownL p mf mn vs vw fb) R := by
  have hmx : maxList = 4194304 := rfl
  have hD := h.since hc hR
  have hst : StepIn w (RNew R w0 w (ownL p mf mn vs vw fb)) (.func (.func 236) #[] #[.pointer (some ⟨bk, 0, none⟩)]) (.remove k) :=
    ⟨_, rfl, ⟨_, rfl, .inr ⟨hk0, cell_lt ck, fun hm => by have := hown _ hm; omega⟩, ck⟩⟩
  have hms := hok.manySteps
  have hcr := named_any hD hst (remove_does hst (b := mn) hD.namesM hk) (by omega)
  go_enter Tryz.func235, Tryz.ntmps235
  go_wp2_with (go_at_call 227; refine hcr.mono ?_; rintro _ w6 ⟨rfl, hT6⟩)
  go_ret
  exact ⟨_, rfl, rfl, Turns.after hc hR hT6⟩

set_option maxRecDepth 100000 in
set_option maxHeartbeats 4000000 in
theorem Remove_any {w : World} {p : Nat} {s : DSt} {R : Nat → Prop} {mf mn ms : Nat} {fb : List Nat} {vs vw : Value} {ss : List Value} {ws : List (List Value)} {e : TypeId} (h : DiskP w p s R mf mn ms fb vs vw ss ws e)
    {k : List UInt8} (hk : k.length ≤ maxLen) {N : Nat} (hok : s.Ok N) (hN : N + 1 < maxList) :
    Calls Tryz.prog 223 #[.pointer (some ⟨p, 0, none⟩), .string ⟨k.toArray⟩] w fun e w' => e = .returned (.int .i64 ((s.remove k).2 : Int)) ∧ Turns w w' p (s.remove k).1 (ownL p mf mn vs vw fb) R := by
  obtain ⟨w3, hw3⟩ : ∃ w3, (w.alloc (.cells #[.pointer (some ⟨p, 0, none⟩)] 45)).alloc (.cells #[.string ⟨k.toArray⟩] 9) = w3 := ⟨_, rfl⟩
  have hb3 : Below w.heap.size w w3 := by rw [← hw3]; exact (below_alloc w _).alloc (by simp) _
  have hz3 : w3.heap.size = w.heap.size + 1 + 1 := by rw [← hw3]; simp
  have hcd : Boxed w3 w.heap.size 45 (.pointer (some ⟨p, 0, none⟩)) := by rw [← hw3]; exact (Boxed.new _ _ _).alloc _
  have hck : Boxed w3 (w.heap.size + 1) 9 (.string ⟨k.toArray⟩) := by rw [← hw3]; have := Boxed.new (w.alloc (.cells #[.pointer (some ⟨p, 0, none⟩)] 45)) 9 (.string ⟨k.toArray⟩); rwa [World.size_alloc] at this
  have h3 := h.below hb3
  have hd := hok.done
  have hmx : maxList = 4194304 := rfl
  have hplt := heap_lt h.cells
  have hc4 : Chg (· ∈ ownL p mf mn vs vw fb) w (w3.setCell ⟨p, 6, none⟩ (.int .i64 ((s.done + 1 : Nat) : Int))) := (Chg.of_below hb3).trans (Chg.set _ mem_own_p) (fun _ h _ => h)
  have hcs : Chg (· = p) w3 (w3.setCell ⟨p, 6, none⟩ (.int .i64 ((s.done + 1 : Nat) : Int))) := Chg.set _ rfl
  have hcd1 := hcd.cell
  have hck1 := hck.cell
  cases hf : nlFind s.names k with
  | none =>
    have he : s.remove k = (s.tick, 7) := by unfold DSt.remove; rw [hf]
    rw [he]
    have hst := fun f => step_none h3 hk hf (by omega) f
    have hT := h3.tick.turnsSince hc4 h.hR
    clear he
    have HZ := Lib.hid hz3; clear hz3
    go_enter Tryz.func223, Tryz.ntmps223
    go_wp2_with fail
    refine (hst _).mono ?_
    rintro _ w4 ⟨rfl, rfl⟩
    go_wp2
    go_ret
    exact ⟨rfl, hT⟩
  | some n =>
    rw [remove_some hf]
    have hne0 : ¬ w.heap.size = p := by omega
    have hne1 : ¬ w.heap.size + 1 = p := by omega
    have hw1 := remove1_any h3.tick hc4 h.hR (fun b hb => h.lt hb) hok.ticked hN (n := n) (k := k) hk (hcs.cell hcd.cell hne0) (hcs.cell hck.cell hne1) (Nat.le_succ _)
    have hst := step_some h3 hk hf (by omega) 235 #[.pointer (some ⟨w.heap.size, 0, none⟩), .pointer (some ⟨w.heap.size + 1, 0, none⟩)] enters_remove1 (fun v w' => v = 0 ∧ Turns w w' p (s.tick.named (.remove k)) (ownL p mf mn vs vw fb) R) hw1
    have HZ := Lib.hid hz3; clear hz3
    go_enter Tryz.func223, Tryz.ntmps223
    go_wp2_with fail
    refine hst.mono ?_
    rintro _ w4 ⟨v, rfl, rfl, hT⟩
    go_wp2
    go_ret
    exact ⟨rfl, hT⟩



end Go.Proofs.YtlmdpcaikhdenaaGreat
