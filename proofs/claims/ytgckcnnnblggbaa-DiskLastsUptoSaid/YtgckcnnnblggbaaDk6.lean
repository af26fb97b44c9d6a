/- Disk: a step of the names is done, and is pending. -/
import Derived.Test.YtgckcnnnblggbaaDk5
namespace Go.Proofs.Ytgckcnnnblggbaa
open Go.RowKit Go.Maps

theorem Try.info86 : (Try.prog.info? 86).map (fun i => (i.zero, i.size, i.bytes)) = some (some .nilFunc, 1, 8) := by kernel_rfl

def DSt.named (s : DSt) (x : NStep) : DSt := { s with names := doStep s.names x, steps := s.steps ++ [x] }

section
variable {w : World} {p : Nat} {s : DSt} {R : Nat → Prop} {mf mn ms : Nat} {fb : List Nat} {vs vw : Value} {ss : List Value} {ws : List (List Value)} {e : TypeId}
theorem DiskP.ne_mn (h : DiskP w p s R mf mn ms fb vs vw ss ws e) : mn ≠ mf ∧ mn ≠ p ∧ (∀ k, vs.ownBlock = some k → k ≠ mn) ∧ (∀ k, vw.ownBlock = some k → k ≠ mn) ∧ mn ∉ fb := by
  have ha := h.apart
  simp only [ownL, List.nodup_cons, List.mem_cons, List.mem_append, Option.mem_toList] at ha
  grind
theorem DiskP.ne_vs (h : DiskP w p s R mf mn ms fb vs vw ss ws e) {k : Nat} (hk : vs.ownBlock = some k) : k ≠ mf ∧ k ≠ p ∧ k ≠ mn ∧ vw.ownBlock ≠ some k ∧ k ∉ fb := by
  have ha := h.apart
  simp only [ownL, List.nodup_cons, List.mem_cons, List.mem_append, Option.mem_toList, hk, Option.toList_some, List.nodup_append, List.mem_singleton] at ha
  grind
theorem DiskP.lt (h : DiskP w p s R mf mn ms fb vs vw ss ws e) {b : Nat} (hb : b ∈ ownL p mf mn vs vw fb) : b < w.heap.size := (h.own b hb).1
theorem apart_vs {p mf mn : Nat} {vs vs' vw : Value} {fb : List Nat} (h : (ownL p mf mn vs vw fb).Nodup) (hv : vs'.ownBlock = vs.ownBlock ∨ ∃ g, vs'.ownBlock = some g ∧ ∀ b ∈ ownL p mf mn vs vw fb, b ≠ g) : (ownL p mf mn vs' vw fb).Nodup := by
  rcases hv with hv | ⟨g, hv, hg⟩
  · unfold ownL at h ⊢; rw [hv]; exact h
  · unfold ownL at h hg ⊢
    rw [hv]
    simp only [List.nodup_cons, List.mem_cons, List.mem_append, Option.mem_toList, Option.toList_some, List.nodup_append, List.mem_singleton] at h hg ⊢
    grind
theorem mem_own_new {p mf mn : Nat} {vs vs' vw : Value} {fb : List Nat} {b : Nat} (h : b ∈ ownL p mf mn vs' vw fb) : vs'.ownBlock = some b ∨ b ∈ ownL p mf mn vs vw fb := by
  simp only [ownL, List.mem_cons, List.mem_append, Option.mem_toList] at h ⊢
  grind
theorem app_one {α β : Type} {l : List α} {m : List β} {x v : α} {y u : β} {i : Nat} (h1 : (l ++ [x])[i]? = some v) (h2 : (m ++ [y])[i]? = some u) (hl : l.length = m.length) : (l[i]? = some v ∧ m[i]? = some u) ∨ (v = x ∧ u = y) := by
  rw [List.getElem?_append] at h1 h2
  split at h1
  · rw [if_pos (by omega)] at h2; exact .inl ⟨h1, h2⟩
  · rw [if_neg (by omega)] at h2
    right
    have hi : i - l.length = 0 := by
      have := (List.getElem?_eq_some_iff.1 h1).1
      simp at this; omega
    rw [hi] at h1
    rw [show i - m.length = 0 from by omega] at h2
    simp at h1 h2
    exact ⟨h1.symm, h2.symm⟩
end

set_option maxRecDepth 100000 in
set_option maxHeartbeats 2000000 in
theorem named_any {w : World} {p : Nat} {s : DSt} {R : Nat → Prop} {mf mn ms : Nat} {fb : List Nat} {vs vw : Value} {ss : List Value} {ws : List (List Value)} {e : TypeId} (h : DiskP w p s R mf mn ms fb vs vw ss ws e)
    {x : NStep} {v : Value} (hv : StepIn w R v x) (hd : DoesStep v x mn s.names w) (hst : s.steps.length < 1000000000) :
    Calls Try.prog 40 #[.pointer (some ⟨p, 0, none⟩), v] w fun e w' => e = .returned (.int .i64 0) ∧ Turns w w' p (s.named x) (ownL p mf mn vs vw fb) R := by
  obtain ⟨i0, hi, hz0, hz1, hz2⟩ := info_parts Try.info86
  obtain ⟨N, caps, rfl, henter, hcall⟩ := hd
  obtain ⟨sa, sc, rfl, _, _⟩ := RowAt.of_owns h.stepsR
  have c2 := cell_of_heap h.cells (i := 2) (v := .map (some mn)) (by rfl)
  obtain ⟨m1, m2, m3, m4, m5⟩ := h.ne_mn
  obtain ⟨n1, n2, n3, n4, n5⟩ := h.ne_p
  go_enter Try.func40, Try.ntmps40
  go_wp2_with (first | (refine hcall.mono ?_; rintro e1 w1 ⟨rfl, hm1, hg1⟩; have hc1 : Chg (· = mn) w w1 := Chg.of_grown hg1 (fun k e _ => by cases e; rfl); have hcell1 := hc1.obj h.cells (Ne.symm m2); have hrow1 := hc1.row h.stepsR m3; have c4 := cell_of_heap hcell1 (i := 4) (v := .slice sa s.steps.length sc) (by rfl); have hs1 := hc1.size; have hp1 := heap_lt hcell1; clear hcall c2 hg1) | (at_builtin; go_loud (refine wpList_append_own_at _ rfl _ _ 62 rfl 0 86 i0 .nilFunc 1 8 Try.underlying62 hi hz0 hz1 hz2 rfl (by decide) _ _ _ rfl (hrow1.alloc _) ⟨_, 0, none⟩ 1 1 [.func (.func N) #[] caps] rfl rfl (cell_one_new _ _ _) (by simp [Value.oneCell']) (by unfold maxLen; omega) (by omega) (by omega) ?_)))
  intro v2 w2 hown2 hg2 _ hat2
  obtain ⟨sa2, sc2, rfl, _, _⟩ := RowAt.of_owns hown2
  have hc2 : Chg (fun b => (Value.slice sa s.steps.length sc).ownBlock = some b) w1 w2 := (Chg.alloc _ w1 _).trans (Chg.of_grown hg2 (fun k e _ => e)) (fun x hx _ => hx)
  have hcell2 := hc2.obj hcell1 (fun e => n3 _ e rfl)
  have c4 := cell_of_heap hcell2 (i := 4) (v := .slice sa s.steps.length sc) (by rfl)
  have z4 := frozen_of_heap (i := 4) hcell2
  have hs2 := hc2.size
  have hsa : (w1.alloc (.cells #[.func (.func N) #[] caps] 86)).heap.size = w1.heap.size + 1 := World.size_alloc _ _
  go_wp2
  go_ret
  refine ⟨rfl, ?_⟩
  have hsv : ∀ k, (Value.slice sa s.steps.length sc).ownBlock = some k → k < w.heap.size := fun k hk => h.lt (mem_own_vs hk)
  have hat : (Value.slice sa2 (s.steps.length + 1) sc2).ownBlock = (Value.slice sa s.steps.length sc).ownBlock ∨ (Value.slice sa2 (s.steps.length + 1) sc2).ownBlock = some (w1.heap.size + 1) := hat2
  have hc3 : Chg (· = p) w2 (w2.setCell ⟨p, 4, none⟩ (.slice sa2 (s.steps.length + 1) sc2)) := Chg.set _ rfl
  have hcell3 := heap_set_cells (i := 4) (.slice sa2 (s.steps.length + 1) sc2) hcell2
  have hrow3 := hc3.row hown2 (fun k hk => by
    rcases hat with e | e
    · rw [e] at hk; exact n3 k hk
    · rw [e] at hk; cases hk; omega)
  have hm3 := hc3.map (hc2.map hm1 (fun e => m3 _ e rfl)) (Ne.symm n2)
  have hc : Chg (fun b => b = mn ∨ (Value.slice sa s.steps.length sc).ownBlock = some b ∨ b = p) w (w2.setCell ⟨p, 4, none⟩ (.slice sa2 (s.steps.length + 1) sc2)) :=
    Chg.trans (Chg.trans (hc1.mono (O' := fun b => b = mn ∨ (Value.slice sa s.steps.length sc).ownBlock = some b ∨ b = p) (fun x hx _ => .inl hx)) hc2 (fun x hx _ => .inr (.inl hx))) hc3 (fun x hx _ => .inr (.inr hx))
  clear hc1 hc2 hc3 hg2 hat2 hown2 hm1
  generalize w2.setCell ⟨p, 4, none⟩ (.slice sa2 (s.steps.length + 1) sc2) = w3 at *
  have hs3 := hc.size
  have hlen : ss.length = s.steps.length := by have := h.stepsR.1; omega
  have hRO : ∀ b, R b → ¬ (b = mn ∨ (Value.slice sa s.steps.length sc).ownBlock = some b ∨ b = p) := fun b hb ho => by
    rcases ho with rfl | ho | rfl
    · exact (h.own _ mem_own_mn).2 hb
    · exact (h.own _ (mem_own_vs ho)).2 hb
    · exact (h.own _ mem_own_p).2 hb
  have hOwn : ∀ b ∈ ownL p mf mn (.slice sa2 (s.steps.length + 1) sc2) vw fb, b ∈ ownL p mf mn (.slice sa s.steps.length sc) vw fb ∨ w.heap.size ≤ b := by
    intro b hb
    rcases hat with e | e
    · left; unfold ownL at hb ⊢; rw [e] at hb; exact hb
    · unfold ownL at hb ⊢
      rw [e] at hb
      simp only [List.mem_cons, List.mem_append, Option.mem_toList, Option.toList_some, List.not_mem_nil, or_false] at hb ⊢
      grind
  have hR' := rnew_ok (w' := w3) h.hR hs3 hOwn
  have hR'' : ∀ b, R b → RNew R w w3 (ownL p mf mn (.slice sa2 (s.steps.length + 1) sc2) vw fb) b := fun b hb => .inl hb
  refine .of_parts (mf := mf) (mn := mn) (ms := ms) (fb := fb) (vs := .slice sa2 (s.steps.length + 1) sc2) (vw := vw) (ss := ss ++ [.func (.func N) #[] caps]) (ws := ws) (e := e) ?_ (hc.mono (fun x hx _ => by rcases hx with rfl | hx | rfl; exact mem_own_mn; exact mem_own_vs hx; exact mem_own_p)) hOwn
  exact {
    cells := by simpa [DSt.named] using hcell3
    filesM := hc.map h.filesM (by rintro (e | e | e); exact m1 e.symm; exact (h.ne_vs e).1 rfl; exact n1 e.symm)
    namesM := hm3
    sureM := hc.map h.sureM (hRO _ h.sureR)
    count := h.count
    file := fun i b d hb hd => (h.file i b d hb hd).kept hc hRO hR'' (by have := List.mem_of_getElem? hb; rintro (e | e | e); exact m5 (e ▸ this); exact (h.ne_vs e).2.2.2.2 this; exact n5 (e ▸ this))
    stepsR := by simpa [DSt.named] using hrow3
    step := fun i v x' hv' hx' => by
      simp only [DSt.named] at hx'
      rcases app_one hv' hx' hlen with ⟨h1, h2⟩ | ⟨rfl, rfl⟩
      · exact (h.step i _ _ h1 h2).kept hc hRO hR''
      · exact hv.kept hc hRO hR''
    writesR := hc.row h.writesR (fun k hk => by rintro (e | e | e); exact m4 k hk e; exact (h.ne_vs e).2.2.2.1 hk; exact n4 k hk e)
    count4 := h.count4
    write := fun i v x hv hx => (h.write i v x hv hx).kept hc hRO hR''
    apart := apart_vs h.apart (hat.imp id (fun e => ⟨_, e, fun b hb => by have := h.lt hb; omega⟩))
    own := fun b hb => ⟨by rcases mem_own_new (vs := .slice sa s.steps.length sc) hb with h1 | h1; exact (hrow3.lt b h1).2; have := h.lt h1; omega, fun hr => (hR' b hr).2 hb⟩
    shared := fun b hb => (hR' b hb).1
    sureR := .inl h.sureR }

end Go.Proofs.Ytgckcnnnblggbaa
