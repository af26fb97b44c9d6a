/- Disk: SyncNames. -/
import Derived.Test.YtgckcnnnblggbaaDkH
import Derived.Test.YtgckcnnnblggbaaShelf
namespace Go.Proofs.Ytgckcnnnblggbaa
open Go.RowKit Go.Maps Go.Shelf

theorem cloneN_any {n b : Nat} {D : DataW Unit} {w : World} (h : w.ownsMap Try.prog 9 (plainElem Try.prog 3) b n D) :
    Calls Try.prog 33 #[.map (some b)] w fun e w' => e = .returned (.map (some w.heap.size)) ∧ w'.ownsMap Try.prog 9 (plainElem Try.prog 3) w.heap.size n D ∧ Below w.heap.size w w' :=
  (AnyW.maps_Clone_owns Try.cloneN 9 (plainElem Try.prog 3) b n D w h).mono fun _ _ ⟨h1, h2, _, h4⟩ => ⟨h1, h2, h4⟩

theorem apart_vs_none {p mf mn : Nat} {vs vs' vw : Value} {fb : List Nat} (h : (ownL p mf mn vs vw fb).Nodup) (hv : vs'.ownBlock = none) : (ownL p mf mn vs' vw fb).Nodup := by
  unfold ownL at h ⊢
  rw [hv]
  simp only [List.nodup_cons, List.mem_cons, List.mem_append, Option.mem_toList, Option.toList_none, List.nodup_append, List.not_mem_nil, List.nodup_nil] at h ⊢
  grind
section
variable {w : World} {p : Nat} {s : DSt} {R : Nat → Prop} {mf mn ms : Nat} {fb : List Nat} {vs vw : Value} {ss : List Value} {ws : List (List Value)} {e : TypeId}
/-- the names that stand last, and no step is pending -/
theorem DiskP.setSure (h : DiskP w p s R mf mn ms fb vs vw ss ws e) {w2 : World} (hb : Below w.heap.size w w2) {m : Nat} {L : NL} (hm : w2.ownsMap Try.prog 9 (plainElem Try.prog 3) m L.length (nameD L)) (hm0 : w.heap.size ≤ m) :
    Turns w ((w2.setCell ⟨p, 3, none⟩ (.map (some m))).setCell ⟨p, 4, none⟩ (.slice none 0 0)) p { s with sure := L, steps := [] } (ownL p mf mn vs vw fb) R := by
  obtain ⟨n1, n2, n3, n4, n5⟩ := h.ne_p
  have hplt := heap_lt h.cells
  have hcell2 := (hb.block p hplt).trans h.cells
  have hc0 : Chg (· = p) w w2 := Chg.of_below hb
  have hc3 : Chg (· = p) w2 (w2.setCell ⟨p, 3, none⟩ (.map (some m))) := Chg.set _ rfl
  have hc4 : Chg (· = p) (w2.setCell ⟨p, 3, none⟩ (.map (some m))) ((w2.setCell ⟨p, 3, none⟩ (.map (some m))).setCell ⟨p, 4, none⟩ (.slice none 0 0)) := Chg.set _ rfl
  have hcell4 := heap_set_cells (i := 4) (.slice none 0 0) (heap_set_cells (i := 3) (.map (some m)) hcell2)
  have hm4 := (hc3.trans hc4 (fun _ h _ => h)).map hm (by omega)
  have hcc := (hc0.trans hc3 (fun _ h _ => h)).trans hc4 (fun _ h _ => h)
  have hmlt := hm4.lt
  clear hc3 hc4
  generalize (w2.setCell ⟨p, 3, none⟩ (.map (some m))).setCell ⟨p, 4, none⟩ (.slice none 0 0) = w3 at *
  have hs3 := hcc.size
  have hRO : ∀ b, R b → ¬ b = p := fun b hb => h.notR mem_own_p b hb
  have hOwn : ∀ b ∈ ownL p mf mn (.slice none 0 0) vw fb, b ∈ ownL p mf mn vs vw fb ∨ w.heap.size ≤ b := by
    intro b hb
    rcases mem_own_new (vs := vs) hb with h1 | h1
    · cases h1
    · exact .inl h1
  have hsub : ∀ b ∈ ownL p mf mn (.slice none 0 0) vw fb, b ∈ ownL p mf mn vs vw fb := by
    intro b hb
    rcases mem_own_new (vs := vs) hb with h1 | h1
    · cases h1
    · exact h1
  have hR' := rnew_ok (w' := w3) h.hR hs3 hOwn
  have hR'' : ∀ b, R b → RNew R w w3 (ownL p mf mn (.slice none 0 0) vw fb) b := fun b hb => .inl hb
  refine .of_parts (mf := mf) (mn := mn) (ms := m) (fb := fb) (vs := .slice none 0 0) (vw := vw) (ss := []) (ws := ws) (e := e) ?_ (hcc.mono (fun x hx _ => by subst hx; exact mem_own_p)) hOwn
  exact {
    cells := by simpa using hcell4
    filesM := hcc.map h.filesM (Ne.symm n1)
    namesM := hcc.map h.namesM (Ne.symm n2)
    sureM := hm4
    count := h.count
    file := fun i b d hb hd => (h.file i b d hb hd).kept hcc hRO hR'' (fun e => n5 (e ▸ List.mem_of_getElem? hb))
    stepsR := World.ownsRow_nil _ _ _ _
    step := fun i v x hv hx => by simp at hv
    writesR := hcc.row h.writesR n4
    count4 := h.count4
    write := fun i c x hc hx => (h.write i c x hc hx).kept hcc hRO hR''
    apart := apart_vs_none h.apart rfl
    own := fun b hb => ⟨by have := h.lt (hsub b hb); omega, fun hr => (hR' b hr).2 hb⟩
    shared := fun b hb => (hR' b hb).1
    sureR := .inr ⟨hm0, hmlt, fun hm => by have := h.lt (hsub _ hm); omega⟩ }
end

set_option maxRecDepth 100000 in
set_option maxHeartbeats 4000000 in
theorem SyncNames_any {w : World} {p : Nat} {s : DSt} {R : Nat → Prop} {mf mn ms : Nat} {fb : List Nat} {vs vw : Value} {ss : List Value} {ws : List (List Value)} {e : TypeId} (h : DiskP w p s R mf mn ms fb vs vw ss ws e) {N : Nat} (hok : s.Ok N) (hN : N + 1 < maxList) :
    Calls Try.prog 19 #[.pointer (some ⟨p, 0, none⟩)] w fun e w' => e = .returned (.int .i64 ((s.syncNames).2 : Int)) ∧ Turns w w' p (s.syncNames).1 (ownL p mf mn vs vw fb) R := by
  have hth := there_any h.cells (mn := mn) (by rfl)
  have c6 := cell_of_heap h.cells (i := 6) (v := .int .i64 (s.done : Int)) (by rfl)
  have z6 := frozen_of_heap (i := 6) h.cells
  have hd := hok.done
  have hmx : maxList = 4194304 := rfl
  have hn : ((s.done + 1 : Nat) : Int) = (s.done : Int) + 1 := by omega
  have hk := h.tick
  have hc1 : Chg (· ∈ ownL p mf mn vs vw fb) w (w.setCell ⟨p, 6, none⟩ (.int .i64 ((s.done + 1 : Nat) : Int))) := Chg.set _ mem_own_p
  have he : s.syncNames = ({ s.tick with sure := s.names, steps := [] }, 0) := rfl
  rw [he]
  rw [hn] at hk hc1
  clear he hn
  have HR := Lib.hid h.hR
  generalize hw1 : w.setCell ⟨p, 6, none⟩ (.int .i64 ((s.done : Int) + 1)) = w1 at *
  have c2 := cell_of_heap hk.cells (i := 2) (v := .map (some mn)) (by rfl)
  have hcl := cloneN_any hk.namesM
  have hp1 := heap_lt hk.cells
  clear h
  go_enter Try.func19, Try.ntmps19
  go_wp2_with (first | (go_at_call 45; refine hth.mono ?_; rintro e1 w2 ⟨rfl, rfl⟩) | (go_at_call 33; refine hcl.mono ?_; rintro _ w2 ⟨rfl, hm2, hb2⟩; have c2' := cell_of_heap ((hb2.block p hp1).trans hk.cells) (i := 3) (v := .map (some ms)) (by rfl); have z2' := frozen_of_heap (i := 3) ((hb2.block p hp1).trans hk.cells); have c4' := cell_of_heap ((hb2.block p hp1).trans hk.cells) (i := 4) (v := vs) (by rfl); have z4' := frozen_of_heap (i := 4) ((hb2.block p hp1).trans hk.cells)))
  go_ret
  exact ⟨rfl, Turns.after' hc1 HR.out (hk.setSure hb2 hm2 (Nat.le_refl _)) (fun y hy => .inl hy) (fun y hy => .inl hy)⟩

end Go.Proofs.Ytgckcnnnblggbaa
