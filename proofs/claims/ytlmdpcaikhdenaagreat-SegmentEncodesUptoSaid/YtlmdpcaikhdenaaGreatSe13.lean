/- Texts of this claim, one behind the other: DkG, DkH, DkI, DkJ. -/
import Derived.Test.YtlmdpcaikhdenaaGreatSe12
import Derived.Test.YtlmdpcaikhdenaaGreatShelf
set_option linter.unusedSimpArgs false
set_option linter.unusedVariables false
/- Disk: Cut. -/
namespace Go.Proofs.YtlmdpcaikhdenaaGreat
open Go.RowKit Go.Maps

/-- Cut, once the file is found -/
def DSt.cutAt (s : DSt) (f : Nat) (size : Int) : DSt × Nat :=
  if size < 0 ∨ ((s.stands f).length : Int) < size then (s, 2) else (s.written ⟨f, true, size.toNat, []⟩, 0)
theorem cut_some {s : DSt} {k : List UInt8} {f : Nat} (hf : nlFind s.names k = some f) (size : Int) : s.cut k size = s.tick.cutAt f size := by
  unfold DSt.cut
  rw [hf]
  simp only []
  unfold DSt.cutAt
  have e1 : s.tick.stands f = s.stands f := rfl
  rw [e1]
  split <;> rfl
theorem enters_cut1 : enters 230 := fun args w => by go_simp

set_option maxRecDepth 100000 in
set_option maxHeartbeats 4000000 in
theorem cut1_any {w0 w : World} {p : Nat} {s : DSt} {R : Nat → Prop} {mf mn ms : Nat} {fb : List Nat} {vs vw : Value} {ss : List Value} {ws : List (List Value)} {e : TypeId} (h : DiskP w p s R mf mn ms fb vs vw ss ws e)
    (hc : Chg (· ∈ ownL p mf mn vs vw fb) w0 w) (hR : ∀ b, R b → b < w0.heap.size ∧ b ∉ ownL p mf mn vs vw fb) (hown : ∀ b ∈ ownL p mf mn vs vw fb, b < w0.heap.size) {N : Nat} (hok : s.Ok N) (hN : N < maxList) {n : Nat} {k : List UInt8} (hf : nlFind s.names k = some n)
    {bd ba : Nat} {size : Int} (cd : w.cell? ⟨bd, 0, none⟩ = some (.pointer (some ⟨p, 0, none⟩))) (ca : w.cell? ⟨ba, 0, none⟩ = some (.int .i64 size)) (ha0 : w0.heap.size ≤ ba) (h64 : -9223372036854775808 ≤ size ∧ size < 9223372036854775808) :
    Calls Tryz.prog 230 #[.int .i64 (n : Int), .pointer (some ⟨ba, 0, none⟩), .pointer (some ⟨bd, 0, none⟩)] w fun e w' => ∃ v, e = .returned (.int .i64 v) ∧ v = ((s.cutAt n size).2 : Int) ∧ Turns w0 w' p (s.cutAt n size).1 (ownL p mf mn vs vw fb) R := by
  have hmx : maxList = 4194304 := rfl
  have hmf : maxFile = 1099511627776 := rfl
  have hn := (hok.names _ (nlFind_mem hf)).1
  have hnn : n ≤ 4194304 := by have := hok.manyFiles; omega
  obtain ⟨b, e', vd, vs', hfb, hfh, hbd', hbs, hlk⟩ := h.file_at (n := n) hn (by omega)
  obtain ⟨da, dc, rfl, _, _, _⟩ := hbd'.row
  have c1 := cell_of_heap h.cells (i := 1) (v := .map (some mf)) (by rfl)
  have f0 := cell_of_heap hfh (i := 0) (v := .slice da (s.stands n).length dc) (by rfl)
  have hst := hok.stands_le n
  have hT := fun nq => (h.turnsSince hc hR).drewN nq
  by_cases e1 : size < 0
  · have he : s.cutAt n size = (s, 2) := by unfold DSt.cutAt; rw [if_pos (.inl e1)]
    rw [he]
    clear he
    have g1 : decide (size < 0) = true := by simpa using e1
    generalize (s.stands n).length = dl at *
    go_enter Tryz.func230, Tryz.ntmps230
    go_wp2
    go_quiet (fail)
    go_wp2
    go_ret
    exact ⟨_, rfl, rfl, hT _⟩
  · have g1 : decide (size < 0) = false := by simpa using e1
    by_cases e2 : ((s.stands n).length : Int) < size
    · have he : s.cutAt n size = (s, 2) := by unfold DSt.cutAt; rw [if_pos (.inr e2)]
      rw [he]
      clear he
      have g2 : decide (((s.stands n).length : Int) < size) = true := by simpa using e2
      generalize (s.stands n).length = dl at *
      go_enter Tryz.func230, Tryz.ntmps230
      go_wp2
      go_quiet (fail)
      go_wp2
      go_ret
      exact ⟨_, rfl, rfl, hT _⟩
    · have g2 : decide (((s.stands n).length : Int) < size) = false := by simpa using e2
      obtain ⟨q, rfl⟩ : ∃ q : Nat, size = (q : Int) := ⟨size.toNat, by omega⟩
      have he : s.cutAt n q = (s.written ⟨n, true, q, []⟩, 0) := by unfold DSt.cutAt; rw [if_neg (by rintro (h | h); exact e1 h; exact e2 h)]; simp
      rw [he]
      clear he
      have HQ : q ≤ maxFile := by omega
      generalize hS : (s.stands n).length = dl at *
      go_enter Tryz.func230, Tryz.ntmps230
      go_wp2
      go_quiet (fail)
      have hb4 : Below w.heap.size w (w.drewN nq) := below_drewN (Below.refl _ _) nq
      have h4 := h.below hb4
      have hc04 := hc.trans (Chg.of_below (O := (· ∈ ownL p mf mn vs vw fb)) hb4) (fun _ h _ => h)
      have cd4 := (hb4.cell (p := ⟨bd, 0, none⟩) (cell_lt cd)).trans cd
      have ca4 := (hb4.cell (p := ⟨ba, 0, none⟩) (cell_lt ca)).trans ca
      generalize w.drewN nq = w4 at *
      clear c1 f0 hlk
      have hlay : LayIn w4 (RNew R w0 w4 (ownL p mf mn vs vw fb)) (.func (.func 232) #[] #[.pointer (some ⟨ba, 0, none⟩)]) ⟨n, true, q, []⟩ :=
        ⟨_, rfl, ⟨_, rfl, .inr ⟨ha0, cell_lt ca4, fun hm => by have := hown _ hm; omega⟩, ca4⟩⟩
      have hwr := written_any (h4.since hc04 hR) (x := ⟨n, true, q, []⟩) hlay hok hN hn HQ
      go_wp2_with (go_at_call 231; refine hwr.mono ?_; rintro _ w7 ⟨rfl, hT7⟩)
      go_ret
      exact ⟨_, rfl, rfl, Turns.after hc04 hR hT7⟩

set_option maxRecDepth 100000 in
set_option maxHeartbeats 4000000 in
theorem Cut_any {w : World} {p : Nat} {s : DSt} {R : Nat → Prop} {mf mn ms : Nat} {fb : List Nat} {vs vw : Value} {ss : List Value} {ws : List (List Value)} {e : TypeId} (h : DiskP w p s R mf mn ms fb vs vw ss ws e)
    {k : List UInt8} (hk : k.length ≤ maxLen) {N : Nat} (hok : s.Ok N) (hN : N + 1 < maxList) {size : Int} (h64 : -9223372036854775808 ≤ size ∧ size < 9223372036854775808) :
    Calls Tryz.prog 221 #[.pointer (some ⟨p, 0, none⟩), .string ⟨k.toArray⟩, .int .i64 size] w fun e w' => e = .returned (.int .i64 ((s.cut k size).2 : Int)) ∧ Turns w w' p (s.cut k size).1 (ownL p mf mn vs vw fb) R := by
  obtain ⟨w3, hw3⟩ : ∃ w3, (w.alloc (.cells #[.pointer (some ⟨p, 0, none⟩)] 45)).alloc (.cells #[.int .i64 size] 2) = w3 := ⟨_, rfl⟩
  have hb3 : Below w.heap.size w w3 := by rw [← hw3]; exact (below_alloc w _).alloc (by simp) _
  have hz3 : w3.heap.size = w.heap.size + 1 + 1 := by rw [← hw3]; simp
  have hcd : Boxed w3 w.heap.size 45 (.pointer (some ⟨p, 0, none⟩)) := by rw [← hw3]; exact (Boxed.new _ _ _).alloc _
  have hca : Boxed w3 (w.heap.size + 1) 2 (.int .i64 size) := by rw [← hw3]; have := Boxed.new (w.alloc (.cells #[.pointer (some ⟨p, 0, none⟩)] 45)) 2 (.int .i64 size); rwa [World.size_alloc] at this
  have h3 := h.below hb3
  have hd := hok.done
  have hmx : maxList = 4194304 := rfl
  have hplt := heap_lt h.cells
  have hc4 : Chg (· ∈ ownL p mf mn vs vw fb) w (w3.setCell ⟨p, 6, none⟩ (.int .i64 ((s.done + 1 : Nat) : Int))) := (Chg.of_below hb3).trans (Chg.set _ mem_own_p) (fun _ h _ => h)
  have hcs : Chg (· = p) w3 (w3.setCell ⟨p, 6, none⟩ (.int .i64 ((s.done + 1 : Nat) : Int))) := Chg.set _ rfl
  have hcd1 := hcd.cell
  cases hf : nlFind s.names k with
  | none =>
    have he : s.cut k size = (s.tick, 7) := by unfold DSt.cut; rw [hf]
    rw [he]
    have hst := fun f => step_none h3 hk hf (by omega) f
    have hT := h3.tick.turnsSince hc4 h.hR
    clear he
    have HZ := Lib.hid hz3; clear hz3
    go_enter Tryz.func221, Tryz.ntmps221
    go_wp2_with fail
    refine (hst _).mono ?_
    rintro _ w4 ⟨rfl, rfl⟩
    go_wp2
    go_ret
    exact ⟨rfl, hT⟩
  | some n =>
    rw [cut_some hf]
    have hne0 : ¬ w.heap.size = p := by omega
    have hne1 : ¬ w.heap.size + 1 = p := by omega
    have hw1 := cut1_any h3.tick hc4 h.hR (fun b hb => h.lt hb) hok.ticked hN (k := k) hf (hcs.cell hcd.cell hne0) (hcs.cell hca.cell hne1) (Nat.le_succ _) h64
    have hst := step_some h3 hk hf (by omega) 230 #[.pointer (some ⟨w.heap.size + 1, 0, none⟩), .pointer (some ⟨w.heap.size, 0, none⟩)] enters_cut1 (fun v w' => v = ((s.tick.cutAt n size).2 : Int) ∧ Turns w w' p (s.tick.cutAt n size).1 (ownL p mf mn vs vw fb) R) hw1
    have HZ := Lib.hid hz3; clear hz3
    go_enter Tryz.func221, Tryz.ntmps221
    go_wp2_with fail
    refine hst.mono ?_
    rintro _ w4 ⟨v, rfl, rfl, hT⟩
    go_wp2
    go_ret
    exact ⟨rfl, hT⟩

end Go.Proofs.YtlmdpcaikhdenaaGreat
/- Disk: Remove, Rename. -/
namespace Go.Proofs.YtlmdpcaikhdenaaGreat
open Go.RowKit Go.Maps

theorem remove_some {s : DSt} {k : List UInt8} {n : Nat} (hf : nlFind s.names k = some n) : s.remove k = (s.tick.named (.remove k), 0) := by unfold DSt.remove; rw [hf]; rfl
theorem rename_some {s : DSt} {k t : List UInt8} {n : Nat} (ht : nameOk t = true) (hf : nlFind s.names k = some n) : s.rename k t = (s.tick.named (.rename k t), 0) := by unfold DSt.rename; rw [ht, hf]; rfl
theorem enters_remove1 : enters 235 := fun args w => by go_simp

set_option maxRecDepth 100000 in
set_option maxHeartbeats 4000000 in
theorem remove1_any {w0 w : World} {p : Nat} {s : DSt} {R : Nat → Prop} {mf mn ms : Nat} {fb : List Nat} {vs vw : Value} {ss : List Value} {ws : List (List Value)} {e : TypeId} (h : DiskP w p s R mf mn ms fb vs vw ss ws e)
    (hc : Chg (· ∈ ownL p mf mn vs vw fb) w0 w) (hR : ∀ b, R b → b < w0.heap.size ∧ b ∉ ownL p mf mn vs vw fb) (hown : ∀ b ∈ ownL p mf mn vs vw fb, b < w0.heap.size) {N : Nat} (hok : s.Ok N) (hN : N < maxList) {n : Nat} {k : List UInt8} (hk : k.length ≤ maxLen)
    {bd bk : Nat} (cd : w.cell? ⟨bd, 0, none⟩ = some (.pointer (some ⟨p, 0, none⟩))) (ck : w.cell? ⟨bk, 0, none⟩ = some (.string ⟨k.toArray⟩)) (hk0 : w0.heap.size ≤ bk) :
    Calls Tryz.prog 235 #[.int .i64 (n : Int), .pointer (some ⟨bd, 0, none⟩), .pointer (some ⟨bk, 0, none⟩)] w fun e w' => ∃ v, e = .returned (.int .i64 v) ∧ v = 0 ∧ Turns w0 w' p (s.named (.remove k)) (ownL p mf mn vs vw fb) R := by
  have hmx : maxList = 4194304 := rfl
  have hD := h.since hc hR
  have hst : StepIn w (RNew R w0 w (ownL p mf mn vs vw fb)) (.func (.func 236) #[] #[.pointer (some ⟨bk, 0, none⟩)]) (.remove k) :=
    ⟨_, rfl, ⟨_, rfl, .inr ⟨hk0, cell_lt ck, fun hm => by have := hown _ hm; omega⟩, ck⟩⟩
  have hms := hok.manySteps
  have hcr := named_any hD hst (remove_does hst (b := mn) hD.namesM hk) (by omega)
  go_enter Tryz.func235, Tryz.ntmps235
  go_wp2_with (go_at_call 227; refine hcr.mono ?_; rintro _ w6 ⟨rfl, hT6⟩)
  go_ret
  exact ⟨_, rfl, rfl, Turns.after hc hR hT6⟩

set_option maxRecDepth 100000 in
set_option maxHeartbeats 4000000 in
theorem Remove_any {w : World} {p : Nat} {s : DSt} {R : Nat → Prop} {mf mn ms : Nat} {fb : List Nat} {vs vw : Value} {ss : List Value} {ws : List (List Value)} {e : TypeId} (h : DiskP w p s R mf mn ms fb vs vw ss ws e)
    {k : List UInt8} (hk : k.length ≤ maxLen) {N : Nat} (hok : s.Ok N) (hN : N + 1 < maxList) :
    Calls Tryz.prog 223 #[.pointer (some ⟨p, 0, none⟩), .string ⟨k.toArray⟩] w fun e w' => e = .returned (.int .i64 ((s.remove k).2 : Int)) ∧ Turns w w' p (s.remove k).1 (ownL p mf mn vs vw fb) R := by
  obtain ⟨w3, hw3⟩ : ∃ w3, (w.alloc (.cells #[.pointer (some ⟨p, 0, none⟩)] 45)).alloc (.cells #[.string ⟨k.toArray⟩] 9) = w3 := ⟨_, rfl⟩
  have hb3 : Below w.heap.size w w3 := by rw [← hw3]; exact (below_alloc w _).alloc (by simp) _
  have hz3 : w3.heap.size = w.heap.size + 1 + 1 := by rw [← hw3]; simp
  have hcd : Boxed w3 w.heap.size 45 (.pointer (some ⟨p, 0, none⟩)) := by rw [← hw3]; exact (Boxed.new _ _ _).alloc _
  have hck : Boxed w3 (w.heap.size + 1) 9 (.string ⟨k.toArray⟩) := by rw [← hw3]; have := Boxed.new (w.alloc (.cells #[.pointer (some ⟨p, 0, none⟩)] 45)) 9 (.string ⟨k.toArray⟩); rwa [World.size_alloc] at this
  have h3 := h.below hb3
  have hd := hok.done
  have hmx : maxList = 4194304 := rfl
  have hplt := heap_lt h.cells
  have hc4 : Chg (· ∈ ownL p mf mn vs vw fb) w (w3.setCell ⟨p, 6, none⟩ (.int .i64 ((s.done + 1 : Nat) : Int))) := (Chg.of_below hb3).trans (Chg.set _ mem_own_p) (fun _ h _ => h)
  have hcs : Chg (· = p) w3 (w3.setCell ⟨p, 6, none⟩ (.int .i64 ((s.done + 1 : Nat) : Int))) := Chg.set _ rfl
  have hcd1 := hcd.cell
  have hck1 := hck.cell
  cases hf : nlFind s.names k with
  | none =>
    have he : s.remove k = (s.tick, 7) := by unfold DSt.remove; rw [hf]
    rw [he]
    have hst := fun f => step_none h3 hk hf (by omega) f
    have hT := h3.tick.turnsSince hc4 h.hR
    clear he
    have HZ := Lib.hid hz3; clear hz3
    go_enter Tryz.func223, Tryz.ntmps223
    go_wp2_with fail
    refine (hst _).mono ?_
    rintro _ w4 ⟨rfl, rfl⟩
    go_wp2
    go_ret
    exact ⟨rfl, hT⟩
  | some n =>
    rw [remove_some hf]
    have hne0 : ¬ w.heap.size = p := by omega
    have hne1 : ¬ w.heap.size + 1 = p := by omega
    have hw1 := remove1_any h3.tick hc4 h.hR (fun b hb => h.lt hb) hok.ticked hN (n := n) (k := k) hk (hcs.cell hcd.cell hne0) (hcs.cell hck.cell hne1) (Nat.le_succ _)
    have hst := step_some h3 hk hf (by omega) 235 #[.pointer (some ⟨w.heap.size, 0, none⟩), .pointer (some ⟨w.heap.size + 1, 0, none⟩)] enters_remove1 (fun v w' => v = 0 ∧ Turns w w' p (s.tick.named (.remove k)) (ownL p mf mn vs vw fb) R) hw1
    have HZ := Lib.hid hz3; clear hz3
    go_enter Tryz.func223, Tryz.ntmps223
    go_wp2_with fail
    refine hst.mono ?_
    rintro _ w4 ⟨v, rfl, rfl, hT⟩
    go_wp2
    go_ret
    exact ⟨rfl, hT⟩



end Go.Proofs.YtlmdpcaikhdenaaGreat
/- Disk: SyncNames. -/
namespace Go.Proofs.YtlmdpcaikhdenaaGreat
open Go.RowKit Go.Maps Go.Shelf

theorem cloneN_any {n b : Nat} {D : DataW Unit} {w : World} (h : w.ownsMap Tryz.prog 9 (plainElem Tryz.prog 3) b n D) :
    Calls Tryz.prog 50 #[.map (some b)] w fun e w' => e = .returned (.map (some w.heap.size)) ∧ w'.ownsMap Tryz.prog 9 (plainElem Tryz.prog 3) w.heap.size n D ∧ Below w.heap.size w w' :=
  (AnyW.maps_Clone_owns Tryz.cloneN 9 (plainElem Tryz.prog 3) b n D w h).mono fun _ _ ⟨h1, h2, _, h4⟩ => ⟨h1, h2, h4⟩

theorem apart_vs_none {p mf mn : Nat} {vs vs' vw : Value} {fb : List Nat} (h : (ownL p mf mn vs vw fb).Nodup) (hv : vs'.ownBlock = none) : (ownL p mf mn vs' vw fb).Nodup := by
  unfold ownL at h ⊢
  rw [hv]
  simp only [List.nodup_cons, List.mem_cons, List.mem_append, Option.mem_toList, Option.toList_none, List.nodup_append, List.not_mem_nil, List.nodup_nil] at h ⊢
  grind
section
variable {w : World} {p : Nat} {s : DSt} {R : Nat → Prop} {mf mn ms : Nat} {fb : List Nat} {vs vw : Value} {ss : List Value} {ws : List (List Value)} {e : TypeId}
/-- the names that stand last, and no step is pending -/
theorem DiskP.setSure (h : DiskP w p s R mf mn ms fb vs vw ss ws e) {w2 : World} (hb : Below w.heap.size w w2) {m : Nat} {L : NL} (hm : w2.ownsMap Tryz.prog 9 (plainElem Tryz.prog 3) m L.length (nameD L)) (hm0 : w.heap.size ≤ m) :
    Turns w ((w2.setCell ⟨p, 3, none⟩ (.map (some m))).setCell ⟨p, 4, none⟩ (.slice none 0 0)) p { s with sure := L, steps := [] } (ownL p mf mn vs vw fb) R := by
  obtain ⟨n1, n2, n3, n4, n5⟩ := h.ne_p
  have hplt := heap_lt h.cells
  have hcell2 := (hb.block p hplt).trans h.cells
  have hc0 : Chg (· = p) w w2 := Chg.of_below hb
  have hc3 : Chg (· = p) w2 (w2.setCell ⟨p, 3, none⟩ (.map (some m))) := Chg.set _ rfl
  have hc4 : Chg (· = p) (w2.setCell ⟨p, 3, none⟩ (.map (some m))) ((w2.setCell ⟨p, 3, none⟩ (.map (some m))).setCell ⟨p, 4, none⟩ (.slice none 0 0)) := Chg.set _ rfl
  have hcell4 := heap_set_cells (i := 4) (.slice none 0 0) (heap_set_cells (i := 3) (.map (some m)) hcell2)
  have hm4 := (hc3.trans hc4 (fun _ h _ => h)).map hm (by omega)
  have hcc := (hc0.trans hc3 (fun _ h _ => h)).trans hc4 (fun _ h _ => h)
  have hmlt := hm4.lt
  clear hc3 hc4
  generalize (w2.setCell ⟨p, 3, none⟩ (.map (some m))).setCell ⟨p, 4, none⟩ (.slice none 0 0) = w3 at *
  have hs3 := hcc.size
  have hRO : ∀ b, R b → ¬ b = p := fun b hb => h.notR mem_own_p b hb
  have hOwn : ∀ b ∈ ownL p mf mn (.slice none 0 0) vw fb, b ∈ ownL p mf mn vs vw fb ∨ w.heap.size ≤ b := by
    intro b hb
    rcases mem_own_new (vs := vs) hb with h1 | h1
    · cases h1
    · exact .inl h1
  have hsub : ∀ b ∈ ownL p mf mn (.slice none 0 0) vw fb, b ∈ ownL p mf mn vs vw fb := by
    intro b hb
    rcases mem_own_new (vs := vs) hb with h1 | h1
    · cases h1
    · exact h1
  have hR' := rnew_ok (w' := w3) h.hR hs3 hOwn
  have hR'' : ∀ b, R b → RNew R w w3 (ownL p mf mn (.slice none 0 0) vw fb) b := fun b hb => .inl hb
  refine .of_parts (mf := mf) (mn := mn) (ms := m) (fb := fb) (vs := .slice none 0 0) (vw := vw) (ss := []) (ws := ws) (e := e) ?_ (hcc.mono (fun x hx _ => by subst hx; exact mem_own_p)) hOwn
  exact {
    cells := by simpa using hcell4
    filesM := hcc.map h.filesM (Ne.symm n1)
    namesM := hcc.map h.namesM (Ne.symm n2)
    sureM := hm4
    count := h.count
    file := fun i b d hb hd => (h.file i b d hb hd).kept hcc hRO hR'' (fun e => n5 (e ▸ List.mem_of_getElem? hb))
    stepsR := World.ownsRow_nil _ _ _ _
    step := fun i v x hv hx => by simp at hv
    writesR := hcc.row h.writesR n4
    count4 := h.count4
    write := fun i c x hc hx => (h.write i c x hc hx).kept hcc hRO hR''
    apart := apart_vs_none h.apart rfl
    own := fun b hb => ⟨by have := h.lt (hsub b hb); omega, fun hr => (hR' b hr).2 hb⟩
    shared := fun b hb => (hR' b hb).1
    sureR := .inr ⟨hm0, hmlt, fun hm => by have := h.lt (hsub _ hm); omega⟩ }
end

set_option maxRecDepth 100000 in
set_option maxHeartbeats 4000000 in
theorem SyncNames_any {w : World} {p : Nat} {s : DSt} {R : Nat → Prop} {mf mn ms : Nat} {fb : List Nat} {vs vw : Value} {ss : List Value} {ws : List (List Value)} {e : TypeId} (h : DiskP w p s R mf mn ms fb vs vw ss ws e) {N : Nat} (hok : s.Ok N) (hN : N + 1 < maxList) :
    Calls Tryz.prog 20 #[.pointer (some ⟨p, 0, none⟩)] w fun e w' => e = .returned (.int .i64 ((s.syncNames).2 : Int)) ∧ Turns w w' p (s.syncNames).1 (ownL p mf mn vs vw fb) R := by
  have hth := there_any h.cells (mn := mn) (by rfl)
  have c6 := cell_of_heap h.cells (i := 6) (v := .int .i64 (s.done : Int)) (by rfl)
  have z6 := frozen_of_heap (i := 6) h.cells
  have hd := hok.done
  have hmx : maxList = 4194304 := rfl
  have hn : ((s.done + 1 : Nat) : Int) = (s.done : Int) + 1 := by omega
  have hk := h.tick
  have hc1 : Chg (· ∈ ownL p mf mn vs vw fb) w (w.setCell ⟨p, 6, none⟩ (.int .i64 ((s.done + 1 : Nat) : Int))) := Chg.set _ mem_own_p
  have he : s.syncNames = ({ s.tick with sure := s.names, steps := [] }, 0) := rfl
  rw [he]
  rw [hn] at hk hc1
  clear he hn
  have HR := Lib.hid h.hR
  generalize hw1 : w.setCell ⟨p, 6, none⟩ (.int .i64 ((s.done : Int) + 1)) = w1 at *
  have c2 := cell_of_heap hk.cells (i := 2) (v := .map (some mn)) (by rfl)
  have hcl := cloneN_any hk.namesM
  have hp1 := heap_lt hk.cells
  clear h
  go_enter Tryz.func20, Tryz.ntmps20
  go_wp2_with (first | (go_at_call 49; refine hth.mono ?_; rintro e1 w2 ⟨rfl, rfl⟩) | (go_at_call 50; refine hcl.mono ?_; rintro _ w2 ⟨rfl, hm2, hb2⟩; have c2' := cell_of_heap ((hb2.block p hp1).trans hk.cells) (i := 3) (v := .map (some ms)) (by rfl); have z2' := frozen_of_heap (i := 3) ((hb2.block p hp1).trans hk.cells); have c4' := cell_of_heap ((hb2.block p hp1).trans hk.cells) (i := 4) (v := vs) (by rfl); have z4' := frozen_of_heap (i := 4) ((hb2.block p hp1).trans hk.cells)))
  go_ret
  exact ⟨rfl, Turns.after' hc1 HR.out (hk.setSure hb2 hm2 (Nat.le_refl _)) (fun y hy => .inl hy) (fun y hy => .inl hy)⟩

end Go.Proofs.YtlmdpcaikhdenaaGreat
/- Disk: the pending writes of a file go: slices.DeleteFunc at structs of four cells. -/
namespace Go.Proofs.YtlmdpcaikhdenaaGreat
open Go.RowKit Go.Maps Go.Shelf

/-- a pending write as it lies: the file, how many bytes, is it a cut, the function -/
abbrev Wv := Nat × Nat × Bool × FuncId × Array Value
def encW (x : Wv) : List Value := [.int .i64 (x.1 : Int), .int .i64 (x.2.1 : Int), .bool x.2.2.1, .func (.func x.2.2.2.1) #[] x.2.2.2.2]
theorem encW_len (x : Wv) : (encW x).length = 4 := rfl
/-- the cells hold these elements from place o on -/
def CellsW (cur : List Value) (o : Nat) (L : List Wv) : Prop := ∀ t x, L[t]? = some x → ∀ c u, (encW x)[c]? = some u → cur[(o + t) * 4 + c]? = some u
theorem flat_len (L : List Wv) : ((L.map encW).flatten).length = L.length * 4 := by
  induction L with
  | nil => rfl
  | cons y r ih => rw [List.map_cons, List.flatten_cons, List.length_append, ih, encW_len, List.length_cons]; omega
theorem take_of_cells : ∀ (L : List Wv) (cur : List Value), CellsW cur 0 L → cur.take (L.length * 4) = (L.map encW).flatten
  | [], cur, _ => by simp
  | y :: r, cur, h => by
    have h0 := h 0 y rfl 0 _ rfl
    have h1 := h 0 y rfl 1 _ rfl
    have h2 := h 0 y rfl 2 _ rfl
    have h3 := h 0 y rfl 3 _ rfl
    match cur, h0, h1, h2, h3 with
    | [], h0, _, _, _ => simp at h0
    | [a], _, h1, _, _ => simp at h1
    | [a, b], _, _, h2, _ => simp at h2
    | [a, b, c], _, _, _, h3 => simp at h3
    | a :: b :: c :: d :: cur', h0, h1, h2, h3 =>
      simp at h0 h1 h2 h3
      subst h0; subst h1; subst h2; subst h3
      have ih := take_of_cells r cur' (fun t x hx c u hu => by
        have := h (t + 1) x (by simpa using hx) c u hu
        rw [show (0 + (t + 1)) * 4 + c = ((0 + t) * 4 + c) + 4 from by omega] at this
        simpa using this)
      have e : (y :: r).length * 4 = (((r.length * 4 + 1) + 1) + 1) + 1 := by simp; omega
      rw [e]
      simp only [List.take_succ_cons, ih, List.map_cons, List.flatten_cons]
      rfl
theorem cells_of_flat : ∀ (L : List Wv) (cur : List Value), cur.take (L.length * 4) = (L.map encW).flatten → CellsW cur 0 L
  | [], cur, _ => fun t x hx => by simp at hx
  | y :: r, cur, h => by
    intro t x hx c u hu
    have e : (y :: r).length * 4 = r.length * 4 + 4 := by simp; omega
    have hc : ∀ k, k < (y :: r).length * 4 → cur[k]? = ((y :: r).map encW).flatten[k]? := fun k hk => by rw [← h, List.getElem?_take_of_lt hk]
    have hcl : c < 4 := by have := (List.getElem?_eq_some_iff.1 hu).1; simpa [encW] using this
    have htl : t < (y :: r).length := (List.getElem?_eq_some_iff.1 hx).1
    have e0 : (0 + t) * 4 + c < (y :: r).length * 4 := by omega
    rw [hc _ e0, List.map_cons, List.flatten_cons]
    cases t with
    | zero =>
      simp at hx
      subst hx
      rw [show (0 + 0) * 4 + c = c from by omega, List.getElem?_append_left (by rw [encW_len]; exact hcl)]
      exact hu
    | succ t =>
      rw [List.getElem?_append_right (by rw [encW_len]; omega), encW_len]
      have ih := cells_of_flat r ((r.map encW).flatten) (List.take_of_length_le (by rw [flat_len]; omega)) t x (by simpa using hx) c u hu
      rw [show (0 + (t + 1)) * 4 + c - 4 = (0 + t) * 4 + c from by omega]
      exact ih

theorem enters_del : enters 240 := fun args w => by go_simp
/-- is it a write of the file n? -/
theorem delPred {n : Nat} {bx : Nat} {W : World} (hbx : W.cell? ⟨bx, 0, none⟩ = some (.int .i64 (n : Int))) (x : Wv) :
    Calls Tryz.prog 240 (#[.agg (encW x).toArray] ++ #[.pointer (some ⟨bx, 0, none⟩)]) W fun e w' => e = .returned (.bool (x.1 == n)) ∧ Below W.heap.size W w' := by
  obtain ⟨f, sz, cut, F, cs⟩ := x
  obtain ⟨v, hv⟩ : ∃ v, v = Value.func (.func F) #[] cs := ⟨_, rfl⟩
  obtain ⟨o, ho⟩ : ∃ o, o = Obj.cells #[.int .i64 (f : Int), .int .i64 (sz : Int), .bool cut, v] 125 := ⟨_, rfl⟩
  have hb1 := below_alloc W o
  have d0 : (W.alloc o).cell? ⟨W.heap.size, 0, none⟩ = some (.int .i64 (f : Int)) := by subst ho; exact cell_new W _ _ 0 _ rfl
  have d1 := (hb1.cell (p := ⟨bx, 0, none⟩) (cell_lt hbx)).trans hbx
  have hr : ((f : Int) == (n : Int)) = (f == n) := by
    rw [Bool.eq_iff_iff]; simp; omega
  subst ho
  subst hv
  show Calls _ _ #[.agg #[.int .i64 (f : Int), .int .i64 (sz : Int), .bool cut, .func (.func F) #[] cs], .pointer (some ⟨bx, 0, none⟩)] _ _
  show Calls _ _ _ _ fun e w' => e = .returned (.bool (f == n)) ∧ _
  rw [← hr]
  clear hr
  go_enter Tryz.func240, Tryz.ntmps240
  go_wp2
  go_ret
  exact ⟨rfl, hb1⟩

theorem idx_cases (p : Wv → Bool) (zs : List Wv) : (Lib.idxBy (fun _ y => p y) zs default = -1 ∧ ∀ x ∈ zs, p x = false) ∨ ∃ k : Nat, Lib.idxBy (fun _ y => p y) zs default = (k : Int) ∧ k < zs.length ∧ (zs.take k).filter (fun x => !p x) = zs.take k ∧ (∀ x, zs[k]? = some x → p x = true) := by
  have key : ∀ (zs : List Wv) (o : Nat), (Lib.idxByFrom (fun _ y => p y) default zs o = -1 ∧ ∀ x ∈ zs, p x = false) ∨ ∃ k : Nat, Lib.idxByFrom (fun _ y => p y) default zs o = ((o + k : Nat) : Int) ∧ k < zs.length ∧ (zs.take k).filter (fun x => !p x) = zs.take k ∧ (∀ x, zs[k]? = some x → p x = true) := by
    intro zs
    induction zs with
    | nil => intro o; exact .inl ⟨rfl, fun x hx => by cases hx⟩
    | cons y r ih =>
      intro o
      unfold Lib.idxByFrom
      cases hy : p y with
      | true => exact .inr ⟨0, by simp, by simp, by simp, fun x hx => by simp at hx; rw [← hx]; exact hy⟩
      | false =>
        simp only [Bool.false_eq_true, if_false]
        rcases ih (o + 1) with ⟨h1, h2⟩ | ⟨k, h1, h2, h3, h4⟩
        · exact .inl ⟨h1, fun x hx => by rcases List.mem_cons.1 hx with rfl | hx; exact hy; exact h2 x hx⟩
        · refine .inr ⟨k + 1, by rw [h1]; congr 1; omega, by simp; omega, ?_, fun x hx => h4 x (by simpa using hx)⟩
          rw [List.take_succ_cons, List.filter_cons, hy, h3]; rfl
  have := key zs 0
  rw [Lib.idxBy]
  rcases this with h | ⟨k, h1, h2⟩
  · exact .inl h
  · exact .inr ⟨k, by rw [h1]; congr 1; omega, h2⟩

theorem indexW_any {g c f bx : Nat} {zs : List Wv} {cur : List Value} {t : TypeId} {w : World} (hg : w.heap[g]? = some (.cells cur.toArray t (0, 0))) (hc : CellsW cur 0 zs) (hn : zs.length ≤ 9223372036854775807) (hbx : w.cell? ⟨bx, 0, none⟩ = some (.int .i64 (f : Int))) :
    Calls Tryz.prog 244 #[.slice (some ⟨g, 0, none⟩) zs.length c, .func (.func 240) #[] #[.pointer (some ⟨bx, 0, none⟩)]] w fun e w' => e = .returned (.int .i64 (Lib.idxBy (fun _ y => y.1 == f) zs default)) ∧ Below w.heap.size w w' := by
  have h := AnyQ.slices_IndexFunc Tryz.indexW 4 Tryz.isAgg125 Tryz.sizeOf125 encW encW_len (fun x : Wv => x.1 == f) 240 #[.pointer (some ⟨bx, 0, none⟩)] enters_del g 0 zs.length c zs w
    (fun W x hW => (delPred ((hW.cell (p := ⟨bx, 0, none⟩) (cell_lt hbx)).trans hbx) x).mono fun _ _ ⟨a, b⟩ => ⟨a, bthen hW b⟩) (Nat.le_refl _) hn (heap_lt hg) (fun j hj i v hi => by
      have e : zs[j]? = some zs[j]! := by rw [List.getElem!_eq_getElem?_getD]; simp [hj]
      have := hc j _ e i v hi
      simp only [Nat.zero_add] at this ⊢
      exact cell_of_heap hg (by simpa using this))
  rw [List.take_length] at h
  exact h

end Go.Proofs.YtlmdpcaikhdenaaGreat
