/- Texts of this claim, one behind the other: Dk6, Dk7, Dk8. -/
import Derived.Test.YtlmdpcaikhdenaaGreatSl02
import Derived.BigQuiet
import Derived.BigRegion
set_option linter.unusedSimpArgs false
set_option linter.unusedVariables false
/- Disk: a step of the names is done, and is pending. -/
namespace Go.Proofs.YtlmdpcaikhdenaaGreat
open Go.RowKit Go.Maps

theorem Tryz.info118 : (Tryz.prog.info? 118).map (fun i => (i.zero, i.size, i.bytes)) = some (some .nilFunc, 1, 8) := by kernel_rfl

def DSt.named (s : DSt) (x : NStep) : DSt := { s with names := doStep s.names x, steps := s.steps ++ [x] }

section
variable {w : World} {p : Nat} {s : DSt} {R : Nat → Prop} {mf mn ms : Nat} {fb : List Nat} {vs vw : Value} {ss : List Value} {ws : List (List Value)} {e : TypeId}
theorem DiskP.ne_mn (h : DiskP w p s R mf mn ms fb vs vw ss ws e) : mn ≠ mf ∧ mn ≠ p ∧ (∀ k, vs.ownBlock = some k → k ≠ mn) ∧ (∀ k, vw.ownBlock = some k → k ≠ mn) ∧ mn ∉ fb := by
  have ha := h.apart
  simp only [ownL, List.nodup_cons, List.mem_cons, List.mem_append, Option.mem_toList] at ha
  grind
theorem DiskP.ne_vs (h : DiskP w p s R mf mn ms fb vs vw ss ws e) {k : Nat} (hk : vs.ownBlock = some k) : k ≠ mf ∧ k ≠ p ∧ k ≠ mn ∧ vw.ownBlock ≠ some k ∧ k ∉ fb := by
  have ha := h.apart
  simp only [ownL, List.nodup_cons, List.mem_cons, List.mem_append, Option.mem_toList, hk, Option.toList_some, List.nodup_append, List.mem_singleton] at ha
  grind
theorem DiskP.lt (h : DiskP w p s R mf mn ms fb vs vw ss ws e) {b : Nat} (hb : b ∈ ownL p mf mn vs vw fb) : b < w.heap.size := (h.own b hb).1
theorem apart_vs {p mf mn : Nat} {vs vs' vw : Value} {fb : List Nat} (h : (ownL p mf mn vs vw fb).Nodup) (hv : vs'.ownBlock = vs.ownBlock ∨ ∃ g, vs'.ownBlock = some g ∧ ∀ b ∈ ownL p mf mn vs vw fb, b ≠ g) : (ownL p mf mn vs' vw fb).Nodup := by
  rcases hv with hv | ⟨g, hv, hg⟩
  · unfold ownL at h ⊢; rw [hv]; exact h
  · unfold ownL at h hg ⊢
    rw [hv]
    simp only [List.nodup_cons, List.mem_cons, List.mem_append, Option.mem_toList, Option.toList_some, List.nodup_append, List.mem_singleton] at h hg ⊢
    grind
theorem mem_own_new {p mf mn : Nat} {vs vs' vw : Value} {fb : List Nat} {b : Nat} (h : b ∈ ownL p mf mn vs' vw fb) : vs'.ownBlock = some b ∨ b ∈ ownL p mf mn vs vw fb := by
  simp only [ownL, List.mem_cons, List.mem_append, Option.mem_toList] at h ⊢
  grind
theorem app_one {α β : Type} {l : List α} {m : List β} {x v : α} {y u : β} {i : Nat} (h1 : (l ++ [x])[i]? = some v) (h2 : (m ++ [y])[i]? = some u) (hl : l.length = m.length) : (l[i]? = some v ∧ m[i]? = some u) ∨ (v = x ∧ u = y) := by
  rw [List.getElem?_append] at h1 h2
  split at h1
  · rw [if_pos (by omega)] at h2; exact .inl ⟨h1, h2⟩
  · rw [if_neg (by omega)] at h2
    right
    have hi : i - l.length = 0 := by
      have := (List.getElem?_eq_some_iff.1 h1).1
      simp at this; omega
    rw [hi] at h1
    rw [show i - m.length = 0 from by omega] at h2
    simp at h1 h2
    exact ⟨h1.symm, h2.symm⟩
end

set_option maxRecDepth 100000 in
set_option maxHeartbeats 2000000 in
theorem named_any {w : World} {p : Nat} {s : DSt} {R : Nat → Prop} {mf mn ms : Nat} {fb : List Nat} {vs vw : Value} {ss : List Value} {ws : List (List Value)} {e : TypeId} (h : DiskP w p s R mf mn ms fb vs vw ss ws e)
    {x : NStep} {v : Value} (hv : StepIn w R v x) (hd : DoesStep v x mn s.names w) (hst : s.steps.length < 1000000000) :
    Calls Tryz.prog 227 #[.pointer (some ⟨p, 0, none⟩), v] w fun e w' => e = .returned (.int .i64 0) ∧ Turns w w' p (s.named x) (ownL p mf mn vs vw fb) R := by
  obtain ⟨i0, hi, hz0, hz1, hz2⟩ := info_parts Tryz.info118
  obtain ⟨N, caps, rfl, henter, hcall⟩ := hd
  obtain ⟨sa, sc, rfl, _, _⟩ := RowAt.of_owns h.stepsR
  have c2 := cell_of_heap h.cells (i := 2) (v := .map (some mn)) (by rfl)
  obtain ⟨m1, m2, m3, m4, m5⟩ := h.ne_mn
  obtain ⟨n1, n2, n3, n4, n5⟩ := h.ne_p
  go_enter Tryz.func227, Tryz.ntmps227
  go_wp2_with (first | (refine hcall.mono ?_; rintro e1 w1 ⟨rfl, hm1, hg1⟩; have hc1 : Chg (· = mn) w w1 := Chg.of_grown hg1 (fun k e _ => by cases e; rfl); have hcell1 := hc1.obj h.cells (Ne.symm m2); have hrow1 := hc1.row h.stepsR m3; have c4 := cell_of_heap hcell1 (i := 4) (v := .slice sa s.steps.length sc) (by rfl); have hs1 := hc1.size; have hp1 := heap_lt hcell1; clear hcall c2 hg1) | (at_builtin; go_loud (refine wpList_append_own_at _ rfl _ _ 110 rfl 0 118 i0 .nilFunc 1 8 Tryz.underlying110 hi hz0 hz1 hz2 rfl (by decide) _ _ _ rfl (hrow1.alloc _) ⟨_, 0, none⟩ 1 1 [.func (.func N) #[] caps] rfl rfl (cell_one_new _ _ _) (by simp [Value.oneCell']) (by unfold maxLen; omega) (by omega) (by omega) ?_)))
  intro v2 w2 hown2 hg2 _ hat2
  obtain ⟨sa2, sc2, rfl, _, _⟩ := RowAt.of_owns hown2
  have hc2 : Chg (fun b => (Value.slice sa s.steps.length sc).ownBlock = some b) w1 w2 := (Chg.alloc _ w1 _).trans (Chg.of_grown hg2 (fun k e _ => e)) (fun x hx _ => hx)
  have hcell2 := hc2.obj hcell1 (fun e => n3 _ e rfl)
  have c4 := cell_of_heap hcell2 (i := 4) (v := .slice sa s.steps.length sc) (by rfl)
  have z4 := frozen_of_heap (i := 4) hcell2
  have hs2 := hc2.size
  have hsa : (w1.alloc (.cells #[.func (.func N) #[] caps] 118)).heap.size = w1.heap.size + 1 := World.size_alloc _ _
  go_wp2
  go_ret
  refine ⟨rfl, ?_⟩
  have hsv : ∀ k, (Value.slice sa s.steps.length sc).ownBlock = some k → k < w.heap.size := fun k hk => h.lt (mem_own_vs hk)
  have hat : (Value.slice sa2 (s.steps.length + 1) sc2).ownBlock = (Value.slice sa s.steps.length sc).ownBlock ∨ (Value.slice sa2 (s.steps.length + 1) sc2).ownBlock = some (w1.heap.size + 1) := hat2
  have hc3 : Chg (· = p) w2 (w2.setCell ⟨p, 4, none⟩ (.slice sa2 (s.steps.length + 1) sc2)) := Chg.set _ rfl
  have hcell3 := heap_set_cells (i := 4) (.slice sa2 (s.steps.length + 1) sc2) hcell2
  have hrow3 := hc3.row hown2 (fun k hk => by
    rcases hat with e | e
    · rw [e] at hk; exact n3 k hk
    · rw [e] at hk; cases hk; omega)
  have hm3 := hc3.map (hc2.map hm1 (fun e => m3 _ e rfl)) (Ne.symm n2)
  have hc : Chg (fun b => b = mn ∨ (Value.slice sa s.steps.length sc).ownBlock = some b ∨ b = p) w (w2.setCell ⟨p, 4, none⟩ (.slice sa2 (s.steps.length + 1) sc2)) :=
    Chg.trans (Chg.trans (hc1.mono (O' := fun b => b = mn ∨ (Value.slice sa s.steps.length sc).ownBlock = some b ∨ b = p) (fun x hx _ => .inl hx)) hc2 (fun x hx _ => .inr (.inl hx))) hc3 (fun x hx _ => .inr (.inr hx))
  clear hc1 hc2 hc3 hg2 hat2 hown2 hm1
  generalize w2.setCell ⟨p, 4, none⟩ (.slice sa2 (s.steps.length + 1) sc2) = w3 at *
  have hs3 := hc.size
  have hlen : ss.length = s.steps.length := by have := h.stepsR.1; omega
  have hRO : ∀ b, R b → ¬ (b = mn ∨ (Value.slice sa s.steps.length sc).ownBlock = some b ∨ b = p) := fun b hb ho => by
    rcases ho with rfl | ho | rfl
    · exact (h.own _ mem_own_mn).2 hb
    · exact (h.own _ (mem_own_vs ho)).2 hb
    · exact (h.own _ mem_own_p).2 hb
  have hOwn : ∀ b ∈ ownL p mf mn (.slice sa2 (s.steps.length + 1) sc2) vw fb, b ∈ ownL p mf mn (.slice sa s.steps.length sc) vw fb ∨ w.heap.size ≤ b := by
    intro b hb
    rcases hat with e | e
    · left; unfold ownL at hb ⊢; rw [e] at hb; exact hb
    · unfold ownL at hb ⊢
      rw [e] at hb
      simp only [List.mem_cons, List.mem_append, Option.mem_toList, Option.toList_some, List.not_mem_nil, or_false] at hb ⊢
      grind
  have hR' := rnew_ok (w' := w3) h.hR hs3 hOwn
  have hR'' : ∀ b, R b → RNew R w w3 (ownL p mf mn (.slice sa2 (s.steps.length + 1) sc2) vw fb) b := fun b hb => .inl hb
  refine .of_parts (mf := mf) (mn := mn) (ms := ms) (fb := fb) (vs := .slice sa2 (s.steps.length + 1) sc2) (vw := vw) (ss := ss ++ [.func (.func N) #[] caps]) (ws := ws) (e := e) ?_ (hc.mono (fun x hx _ => by rcases hx with rfl | hx | rfl; exact mem_own_mn; exact mem_own_vs hx; exact mem_own_p)) hOwn
  exact {
    cells := by simpa [DSt.named] using hcell3
    filesM := hc.map h.filesM (by rintro (e | e | e); exact m1 e.symm; exact (h.ne_vs e).1 rfl; exact n1 e.symm)
    namesM := hm3
    sureM := hc.map h.sureM (hRO _ h.sureR)
    count := h.count
    file := fun i b d hb hd => (h.file i b d hb hd).kept hc hRO hR'' (by have := List.mem_of_getElem? hb; rintro (e | e | e); exact m5 (e ▸ this); exact (h.ne_vs e).2.2.2.2 this; exact n5 (e ▸ this))
    stepsR := by simpa [DSt.named] using hrow3
    step := fun i v x' hv' hx' => by
      simp only [DSt.named] at hx'
      rcases app_one hv' hx' hlen with ⟨h1, h2⟩ | ⟨rfl, rfl⟩
      · exact (h.step i _ _ h1 h2).kept hc hRO hR''
      · exact hv.kept hc hRO hR''
    writesR := hc.row h.writesR (fun k hk => by rintro (e | e | e); exact m4 k hk e; exact (h.ne_vs e).2.2.2.1 hk; exact n4 k hk e)
    count4 := h.count4
    write := fun i v x hv hx => (h.write i v x hv hx).kept hc hRO hR''
    apart := apart_vs h.apart (hat.imp id (fun e => ⟨_, e, fun b hb => by have := h.lt hb; omega⟩))
    own := fun b hb => ⟨by rcases mem_own_new (vs := .slice sa s.steps.length sc) hb with h1 | h1; exact (hrow3.lt b h1).2; have := h.lt h1; omega, fun hr => (hR' b hr).2 hb⟩
    shared := fun b hb => (hR' b hb).1
    sureR := .inl h.sureR }

end Go.Proofs.YtlmdpcaikhdenaaGreat
/- Disk: Create. -/
namespace Go.Proofs.YtlmdpcaikhdenaaGreat
open Go.RowKit Go.Maps

theorem Turns.after' {w w1 w2 : World} {p : Nat} {s2 : DSt} {own own1 : List Nat} {R R1 : Nat → Prop} (hc : Chg (· ∈ own) w w1) (hR : ∀ b, R b → b < w.heap.size ∧ b ∉ own) (k : Turns w1 w2 p s2 own1 R1)
    (ho : ∀ b ∈ own1, b ∈ own ∨ w.heap.size ≤ b) (hR1 : ∀ b, R1 b → RNew R w w1 own1 b) : Turns w w2 p s2 own R := by
  obtain ⟨own2, k1, k2, k3⟩ := k
  have h4 : ∀ b ∈ own2, b ∈ own ∨ w.heap.size ≤ b := fun b hb => by
    rcases k3 b hb with hb | hb
    · exact ho b hb
    · exact .inr (Nat.le_trans hc.size hb)
  have hc2 : Chg (· ∈ own) w w2 := hc.trans k2 (fun x hx hlt => by rcases ho x hx with h | h; exact h; omega)
  obtain ⟨mf, mn, ms, fb, vs, vw, ss, ws, e, hp, rfl⟩ := k1
  refine ⟨_, ⟨mf, mn, ms, fb, vs, vw, ss, ws, e, hp.widen (fun b hb => ?_) (rnew_ok hR hc2.size h4), rfl⟩, hc2, h4⟩
  rcases hb with hb | ⟨h5, h6, h7⟩
  · rcases hR1 b hb with hb | ⟨h5, h6, h7⟩
    · exact .inl hb
    · refine .inr ⟨h5, Nat.lt_of_lt_of_le h6 k2.size, fun hm => ?_⟩
      rcases k3 b hm with h | h
      · exact h7 h
      · omega
  · exact .inr ⟨Nat.le_trans hc.size h5, h6, h7⟩
theorem Turns.after {w w1 w2 : World} {p : Nat} {s2 : DSt} {own : List Nat} {R : Nat → Prop} (hc : Chg (· ∈ own) w w1) (hR : ∀ b, R b → b < w.heap.size ∧ b ∉ own) (k : Turns w1 w2 p s2 own (RNew R w w1 own)) : Turns w w2 p s2 own R :=
  Turns.after' hc hR k (fun b hb => .inl hb) (fun b hb => hb)

theorem filesD_put (fb : List Nat) (b : Nat) : (filesD fb).put (.int .i64 (fb.length : Int)) (.lit (.int .i64 (b : Int))) = filesD (fb ++ [b]) := by
  unfold filesD DataW.put
  simp only [DataW.map.injEq]
  have key : ∀ (l : List Nat) (o : Nat), DataW.insert (fileE (b, o + l.length)) ((((l.zipIdx o).map fileE)).filter fun q => !q.1.sameKey (.int .i64 ((o + l.length : Nat) : Int))) = ((l ++ [b]).zipIdx o).map fileE := by
    intro l
    induction l with
    | nil => intro o; rfl
    | cons x r ih =>
      intro o
      rw [List.zipIdx_cons, List.map_cons, List.filter_cons]
      have e : (fileE (x, o)).1.sameKey (.int .i64 ((o + (x :: r).length : Nat) : Int)) = false := by
        simp [fileE, Lit.sameKey]; omega
      rw [e]
      simp only [Bool.not_false, if_true]
      unfold DataW.insert
      have e2 : (fileE (b, o + (x :: r).length)).1.before (fileE (x, o)).1 = false := by
        simp [fileE, Lit.before]; omega
      rw [e2, List.cons_append, List.zipIdx_cons, List.map_cons]
      simp only [Bool.false_eq_true, if_false, List.cons.injEq, true_and]
      have := ih (o + 1)
      rw [show o + 1 + r.length = o + (x :: r).length from by simp; omega] at this
      exact this
  have := key fb 0
  rw [Nat.zero_add] at this
  exact this

section
variable {w : World} {p : Nat} {s : DSt} {R : Nat → Prop} {mf mn ms : Nat} {fb : List Nat} {vs vw : Value} {ss : List Value} {ws : List (List Value)} {e : TypeId}
theorem DiskP.grow (h : DiskP w p s R mf mn ms fb vs vw ss ws e) {w1 : World} (hb : Below w.heap.size w w1) : DiskP w1 p s (RNew R w w1 (ownL p mf mn vs vw fb)) mf mn ms fb vs vw ss ws e :=
  (h.kept (O := fun b => w.heap.size ≤ b) ⟨hb.os, hb.tape, hb.output, hb.size, fun k hk _ => hb.block k hk⟩ (fun b hr => by have := h.shared b hr; omega) (fun b hm => by have := h.lt hm; omega)).widen (fun b hb => .inl hb) (rnew_ok h.hR hb.size (fun b hb => .inl hb))
end

/-- one more file, of no bytes -/
theorem DiskP.addFile {w : World} {p : Nat} {s : DSt} {R : Nat → Prop} {mf mn ms : Nat} {fb : List Nat} {vs vw : Value} {ss : List Value} {ws : List (List Value)} {e : TypeId} (h : DiskP w p s R mf mn ms fb vs vw ss ws e) {w4 w5 : World} {t : TypeId} {n : Nat}
    (hb : Below w.heap.size w w4) (ho : w4.heap[w.heap.size]? = some (.cells #[.slice none 0 0, .slice none 0 0] t (0, 0))) (hm : w5.ownsMap Tryz.prog 3 ptrElem mf n ((filesD fb).put (.int .i64 (fb.length : Int)) (.lit (.int .i64 (w.heap.size : Int))))) (ht : w4.mapTurned w5 mf) :
    DiskP w5 p { s with files := s.files ++ [([], [])] } R mf mn ms (fb ++ [w.heap.size]) vs vw ss ws e ∧ Chg (· ∈ ownL p mf mn vs vw fb) w w5 := by
  rw [filesD_put] at hm
  have hm := ownsMap_tight hm
  rw [show size (filesD (fb ++ [w.heap.size])) = (fb ++ [w.heap.size]).length from by simp [filesD, size_eq]] at hm
  have hc0 : Chg (· = mf) w w4 := ⟨hb.os, hb.tape, hb.output, hb.size, fun k hk _ => hb.block k hk⟩
  have hc1 : Chg (· = mf) w4 w5 := Chg.turned ht rfl
  have hc : Chg (· = mf) w w5 := hc0.trans hc1 (fun x hx _ => hx)
  obtain ⟨n1, n2, n3, n4, n5⟩ := h.ne_p
  obtain ⟨m1, m2, m3, m4, m5⟩ := h.ne_mn
  have hlt4 := heap_lt ho
  have hlt5 : w.heap.size < w5.heap.size := Nat.lt_of_lt_of_le hlt4 hc1.size
  have hmf := h.lt (b := mf) mem_own_mf
  have hRO : ∀ b, R b → ¬ b = mf := fun b hb => h.notR mem_own_mf b hb
  have hap := h.apart
  have hall := h.own
  have hold : ∀ b ∈ ownL p mf mn vs vw fb, b ≠ w.heap.size := fun b hb => by have := (hall b hb).1; omega
  have happ : (ownL p mf mn vs vw (fb ++ [w.heap.size])).Nodup ∧ ∀ b ∈ ownL p mf mn vs vw (fb ++ [w.heap.size]), b ∈ ownL p mf mn vs vw fb ∨ b = w.heap.size := by
    have e1 : ownL p mf mn vs vw (fb ++ [w.heap.size]) = ownL p mf mn vs vw fb ++ [w.heap.size] := by simp [ownL]
    rw [e1]
    refine ⟨List.nodup_append.2 ⟨hap, by simp, fun a ha b hb => by simp at hb; subst hb; exact hold a ha⟩, fun b hb => ?_⟩
    rcases List.mem_append.1 hb with hb | hb
    · exact .inl hb
    · simp at hb; exact .inr hb
  have hmo : ∀ k, vs.ownBlock = some k → ¬ k = mf := fun k hk => (h.ne_vs hk).1
  have hvw : ∀ k, vw.ownBlock = some k → ¬ k = mf := fun k hk e => by
    subst e
    simp only [ownL, List.nodup_cons, List.mem_cons, List.mem_append, Option.mem_toList, hk] at hap
    grind
  have hfb : mf ∉ fb := by
    simp only [ownL, List.nodup_cons, List.mem_cons, List.mem_append, Option.mem_toList] at hap
    grind
  refine ⟨?_, hc.mono (fun x hx _ => by subst hx; exact mem_own_mf)⟩
  exact {
    cells := hc.obj h.cells n1
    filesM := hm
    namesM := hc.map h.namesM m1
    sureM := hc.map h.sureM (hRO _ h.sureR)
    count := by simp [h.count]
    file := fun i b d hb hd => by
      rcases app_one hb hd h.count with ⟨h1, h2⟩ | ⟨rfl, rfl⟩
      · exact (h.file i b d h1 h2).kept hc hRO (fun _ h => h) (fun e => hfb (e ▸ List.mem_of_getElem? h1))
      · exact ⟨t, _, _, hc1.obj ho (by omega), BytesIn.nil _ _, BytesIn.nil _ _⟩
    stepsR := hc.row h.stepsR hmo
    step := fun i v x hv hx => (h.step i v x hv hx).kept hc hRO (fun _ h => h)
    writesR := hc.row h.writesR hvw
    count4 := h.count4
    write := fun i v x hv hx => (h.write i v x hv hx).kept hc hRO (fun _ h => h)
    apart := happ.1
    own := fun b hb => by
      rcases happ.2 b hb with h1 | rfl
      · exact ⟨Nat.lt_of_lt_of_le (hall b h1).1 hc.size, (hall b h1).2⟩
      · exact ⟨hlt5, fun hr => by have := h.shared _ hr; omega⟩
    shared := fun b hb => Nat.lt_of_lt_of_le (h.shared b hb) hc.size
    sureR := h.sureR }
theorem Turns.drewN {w w' : World} {p : Nat} {s : DSt} {own : List Nat} {R : Nat → Prop} (h : Turns w w' p s own R) (q : Nat) : Turns w (w'.drewN q) p s own R := by
  obtain ⟨own', h1, h2, h3⟩ := h
  exact ⟨own', h1.kept (O := fun _ => False) ⟨rfl, rfl, rfl, Nat.le_refl _, fun _ _ _ => rfl⟩ (fun _ _ h => h) (fun _ _ h => h), ⟨h2.os, h2.tape, h2.output, h2.size, h2.block⟩, h3⟩
theorem DiskP.drewN {w : World} {p : Nat} {s : DSt} {R : Nat → Prop} {mf mn ms : Nat} {fb : List Nat} {vs vw : Value} {ss : List Value} {ws : List (List Value)} {e : TypeId} (h : DiskP w p s R mf mn ms fb vs vw ss ws e) (q : Nat) : DiskP (w.drewN q) p s R mf mn ms fb vs vw ss ws e :=
  h.kept (O := fun _ => False) ⟨rfl, rfl, rfl, Nat.le_refl _, fun _ _ _ => rfl⟩ (fun _ _ h => h) (fun _ _ h => h)
theorem filesD_size (fb : List Nat) : size (filesD fb) = fb.length := by simp [filesD, size_eq]
theorem below_alloc (w : World) (o : Obj) : Below w.heap.size w (w.alloc o) := (Below.refl _ w).alloc (Nat.le_refl _) _
theorem below_alloc_drew (w : World) (o : Obj) : Below w.heap.size w (w.alloc o).drew := let b := below_alloc w o; ⟨b.os, b.tape, b.output, b.size, b.block⟩
theorem Chg.drewN {O : Nat → Prop} {w w' : World} (h : Chg O w w') (q : Nat) : Chg O w (w'.drewN q) := ⟨h.os, h.tape, h.output, h.size, h.block⟩
theorem own_file {p mf mn : Nat} {vs vw : Value} {fb : List Nat} {x b : Nat} (h : b ∈ ownL p mf mn vs vw (fb ++ [x])) : b ∈ ownL p mf mn vs vw fb ∨ b = x := by
  simp only [ownL, List.mem_cons, List.mem_append, List.not_mem_nil, or_false] at h ⊢
  grind

set_option maxRecDepth 100000 in
set_option maxHeartbeats 2000000 in
theorem Create_any {w : World} {p : Nat} {s : DSt} {R : Nat → Prop} {mf mn ms : Nat} {fb : List Nat} {vs vw : Value} {ss : List Value} {ws : List (List Value)} {e : TypeId} (h : DiskP w p s R mf mn ms fb vs vw ss ws e)
    {k : List UInt8} (hk : k.length ≤ maxLen) {N : Nat} (hok : s.Ok N) (hN : N < maxList) :
    Calls Tryz.prog 220 #[.pointer (some ⟨p, 0, none⟩), .string ⟨k.toArray⟩] w fun e w' => e = .returned (.int .i64 ((s.create k).2 : Int)) ∧ Turns w w' p (s.create k).1 (ownL p mf mn vs vw fb) R := by
  have hg := h.grow (below_alloc w (.cells #[.string ⟨k.toArray⟩] 9))
  have hsz : (w.alloc (.cells #[.string ⟨k.toArray⟩] 9)).heap.size = w.heap.size + 1 := World.size_alloc _ _
  have hbox : (w.alloc (.cells #[.string ⟨k.toArray⟩] 9)).cell? ⟨w.heap.size, 0, none⟩ = some (.string ⟨k.toArray⟩) := cell_new w _ _ 0 _ rfl
  have hc01 : Chg (· ∈ ownL p mf mn vs vw fb) w (w.alloc (.cells #[.string ⟨k.toArray⟩] 9)) := Chg.alloc _ _ _
  have hplt := heap_lt h.cells
  have hmax : maxLen = 9223372036854775807 := rfl
  have hdone := hok.done
  have hmx : maxList = 4194304 := rfl
  have hname := Name_any k
  obtain ⟨r, hr⟩ : ∃ r, r = nameOk k := ⟨_, rfl⟩
  rw [← hr] at hname
  have hnx : ∀ w, Calls Tryz.prog 83 #[.string ⟨k.toArray⟩] w fun e w' => e = .returned (.bool r) ∧ w = w' := fun w => hname w (by omega)
  clear hname
  have hT : Turns w ((w.alloc (.cells #[.string ⟨k.toArray⟩] 9)).setCell ⟨p, 6, none⟩ (.int .i64 ((s.done + 1 : Nat) : Int))) p s.tick (ownL p mf mn vs vw fb) R := Turns.after hc01 h.hR hg.ticked
  generalize hw1 : w.alloc (.cells #[.string ⟨k.toArray⟩] 9) = w1 at *
  have hth := there_any hg.cells (mn := mn) (by rfl)
  have c2 := cell_of_heap hg.cells (i := 2) (v := .map (some mn)) (by rfl)
  have c6 := cell_of_heap hg.cells (i := 6) (v := .int .i64 (s.done : Int)) (by rfl)
  have z6 := frozen_of_heap (i := 6) hg.cells
  have hn : ((s.done + 1 : Nat) : Int) = (s.done : Int) + 1 := by omega
  rw [hn] at hT
  cases r with
  | false =>
    have he : s.create k = (s.tick, 2) := by unfold DSt.create; rw [← hr]; rfl
    rw [he]
    clear he hr
    have hT2 : ∀ v : Int, v = 2 → (Ending.returned (.int .i64 v) = .returned (.int .i64 ((2 : Nat) : Int))) := by rintro v rfl; rfl
    go_enter Tryz.func220, Tryz.ntmps220
    go_wp2_with (first | (go_at_call 49; refine hth.mono ?_; rintro e1 w2 ⟨rfl, rfl⟩) | (go_at_call 83; refine (hnx _).mono ?_; rintro e1 w2 ⟨rfl, rfl⟩))
    go_ret
    exact ⟨rfl, hT⟩
  | true =>
    have hmt : (w1.setCell ⟨p, 6, none⟩ (.int .i64 ((s.done : Int) + 1))).ownsMap Tryz.prog 9 (plainElem Tryz.prog 3) mn s.names.length (nameD s.names) := by have := hg.tick.namesM; rw [hn] at this; exact this
    have hlk : ∀ q : Nat, (Instr.lookup 109 (.map (some mn)) (.string ⟨k.toArray⟩) true).run Tryz.prog ((w1.setCell ⟨p, 6, none⟩ (.int .i64 ((s.done : Int) + 1))).drewN q) = .ok (.tuple #[.int .i64 (((nlFind s.names k).getD 0 : Nat) : Int), .bool (nlFind s.names k).isSome]) ((w1.setCell ⟨p, 6, none⟩ (.int .i64 ((s.done : Int) + 1))).drewN q) := fun q => look_name (w := (w1.setCell ⟨p, 6, none⟩ (.int .i64 ((s.done : Int) + 1))).drewN q) hmt hk
    cases hf : nlFind s.names k with
    | some n =>
      have he : s.create k = (s.tick, 8) := by unfold DSt.create; rw [← hr, hf]; rfl
      rw [he]
      clear hr
      rw [hf] at hlk
      simp only [Option.getD_some, Option.isSome_some] at hlk
      clear he hf
      go_enter Tryz.func220, Tryz.ntmps220
      go_wp2_with (first | (go_at_call 49; refine hth.mono ?_; rintro e1 w2 ⟨rfl, rfl⟩) | (go_at_call 83; refine (hnx _).mono ?_; rintro e1 w2 ⟨rfl, rfl⟩))
      go_quiet (fail)
      go_wp2
      go_ret
      exact ⟨rfl, hT.drewN _⟩
    | none =>
      have he : s.create k = (({ s.tick with files := s.files ++ [([], [])] } : DSt).named (.create k s.files.length), 0) := by unfold DSt.create; rw [← hr, hf]; rfl
      rw [he]
      clear hr
      rw [hf] at hlk
      simp only [Option.getD_none, Option.isSome_none] at hlk
      clear he hf
      have hgt := hg.tick
      rw [hn] at hgt
      go_enter Tryz.func220, Tryz.ntmps220
      go_wp2_with (first | (go_at_call 49; refine hth.mono ?_; rintro e1 w2 ⟨rfl, rfl⟩) | (go_at_call 83; refine (hnx _).mono ?_; rintro e1 w2 ⟨rfl, rfl⟩))
      go_quiet (fail)
      have hD := hgt.drewN nq
      have hc12 : Chg (· ∈ ownL p mf mn vs vw fb) w1 ((w1.setCell ⟨p, 6, none⟩ (.int .i64 ((s.done : Int) + 1))).drewN nq) := (Chg.set (a := ⟨p, 6, none⟩) _ mem_own_p).drewN _
      have hbx : ((w1.setCell ⟨p, 6, none⟩ (.int .i64 ((s.done : Int) + 1))).drewN nq).cell? ⟨w.heap.size, 0, none⟩ = some (.string ⟨k.toArray⟩) := (Chg.set (O := (· = p)) (w := w1) (a := ⟨p, 6, none⟩) (.int .i64 ((s.done : Int) + 1)) rfl).cell hbox (by show ¬ (w.heap.size = p); omega)
      have hz2 : ((w1.setCell ⟨p, 6, none⟩ (.int .i64 ((s.done : Int) + 1))).drewN nq).heap.size = w.heap.size + 1 := by rw [← hsz]; simp [World.setCell, World.drewN]
      generalize (w1.setCell ⟨p, 6, none⟩ (.int .i64 ((s.done : Int) + 1))).drewN nq = w2 at *
      have c1 := cell_of_heap hD.cells (i := 1) (v := .map (some mf)) (by rfl)
      have hlen := fun ty => hD.filesM.len Tryz.underlying107 ty
      rw [filesD_size] at hlen
      clear hlk
      have HZ2 := Lib.hid hz2; clear hz2
      go_wp2
      have hD3 := hD.grow (below_alloc w2 (.cells #[.int .i64 (fb.length : Int)] 3))
      have hb3 := below_alloc w2 (.cells #[.int .i64 (fb.length : Int)] 3)
      have hn3 : (w2.alloc (.cells #[.int .i64 (fb.length : Int)] 3)).cell? ⟨w2.heap.size, 0, none⟩ = some (.int .i64 (fb.length : Int)) := cell_new w2 _ _ 0 _ rfl
      have hs3 : (w2.alloc (.cells #[.int .i64 (fb.length : Int)] 3)).heap.size = w2.heap.size + 1 := World.size_alloc _ _
      have hbx3 : (w2.alloc (.cells #[.int .i64 (fb.length : Int)] 3)).cell? ⟨w.heap.size, 0, none⟩ = some (.string ⟨k.toArray⟩) := (Chg.alloc (fun _ => False) w2 _).cell hbx (fun h => h)
      have hlt3 : w2.heap.size < (w2.alloc (.cells #[.int .i64 (fb.length : Int)] 3)).heap.size := by omega
      have hltb : w.heap.size < (w2.alloc (.cells #[.int .i64 (fb.length : Int)] 3)).heap.size := by have := HZ2.out; omega
      have HS3 := Lib.hid hs3; clear hs3
      generalize w2.alloc (.cells #[.int .i64 (fb.length : Int)] 3) = w3 at *
      have c1 := cell_of_heap hD3.cells (i := 1) (v := .map (some mf)) (by rfl)
      have hfl : fb.length ≤ 4194304 := by have := hok.manyFiles; have := hD.count; simp [DSt.tick] at this; omega
      have hm4 := ((Chg.alloc (fun _ => False) w3.drew (.cells #[.slice none 0 0, .slice none 0 0] 121)).map (w := w3.drew) hD3.filesM (fun h => h))
      obtain ⟨w5, hr5, hm5, ht5⟩ := hm4.store (int_keyed Tryz.underlying3) Tryz.underlying107 (by omega) (key := .int .i64 (fb.length : Int)) (val := .pointer (some ⟨w3.heap.size, 0, none⟩)) (keyOf_int_mk Tryz.underlying3 (wf_i64 (by omega) (by omega))) (ptrElem_mk _)
      have hr5' : (Instr.mapUpdate 107 (.map (some mf)) (.int .i64 (fb.length : Int)) (.pointer (some ⟨w3.heap.size, 0, none⟩))).run Tryz.prog (w3.alloc (.cells #[.slice none 0 0, .slice none 0 0] 121)).drew = .ok () w5 := hr5
      have hp3 := heap_lt hD3.cells
      have hD5 := Lib.hid hm5; clear hm5
      have hT5 := Lib.hid ht5; clear ht5
      have hm4' := Lib.hid hm4; clear hm4
      have hd3 := hD3
      obtain ⟨hA, hcA⟩ := DiskP.addFile (w4 := (w3.alloc (.cells #[.slice none 0 0, .slice none 0 0] 121)).drew) hd3 (below_alloc_drew w3 _) (World.alloc_heap_new w3 _) hD5.out hT5.out
      have HA := Lib.hid hA; clear hA
      go_region
      have hA := HA.out; clear HA
      have hcnt : s.files.length = fb.length := hD3.count.symm
      have hs5 := hcA.size
      have hbx5 : w5.cell? ⟨w.heap.size, 0, none⟩ = some (.string ⟨k.toArray⟩) := hcA.cell hbx3 (fun hm => by have := h.lt hm; exact absurd this (Nat.lt_irrefl _))
      have hn5 : w5.cell? ⟨w2.heap.size, 0, none⟩ = some (.int .i64 (fb.length : Int)) := hcA.cell hn3 (fun hm => by have := h.lt hm; have := HZ2.out; simp only at *; omega)
      have r1 : RNew (RNew R w w1 (ownL p mf mn vs vw fb)) w2 w3 (ownL p mf mn vs vw fb) w.heap.size := .inl (.inr ⟨Nat.le_refl _, by omega, fun hm => by have := h.lt hm; omega⟩)
      have r2 : RNew (RNew R w w1 (ownL p mf mn vs vw fb)) w2 w3 (ownL p mf mn vs vw fb) w2.heap.size := .inr ⟨Nat.le_refl _, by omega, fun hm => by have := h.lt hm; have := HZ2.out; omega⟩
      have hst : StepIn w5 (RNew (RNew R w w1 (ownL p mf mn vs vw fb)) w2 w3 (ownL p mf mn vs vw fb)) (.func (.func 228) #[] #[.pointer (some ⟨w2.heap.size, 0, none⟩), .pointer (some ⟨w.heap.size, 0, none⟩)]) (.create k s.files.length) := by
        rw [hcnt]; exact ⟨_, _, rfl, ⟨_, rfl, r2, hn5⟩, ⟨_, rfl, r1, hbx5⟩⟩
      have hnl := hok.manyNames
      have hdo := create_does hst (b := mn) hA.namesM hk (by omega) (by show s.names.length < maxLen; omega)
      have hcr := named_any hA hst hdo (by have := hok.manySteps; show s.steps.length < 1000000000; omega)
      have hw05 : Chg (· ∈ ownL p mf mn vs vw fb) w w5 := Chg.trans (Chg.trans (Chg.trans hc01 hc12 (fun _ h _ => h)) (Chg.of_below (O := (· ∈ ownL p mf mn vs vw fb)) hb3) (fun _ h _ => h)) hcA (fun _ h _ => h)
      go_wp2_with (go_at_call 227; refine hcr.mono ?_; rintro e6 w6 ⟨rfl, hT6⟩)
      go_ret
      refine ⟨rfl, Turns.after' hw05 h.hR hT6 ?_ ?_⟩
      · intro b hb
        rcases own_file hb with h1 | rfl
        · exact .inl h1
        · exact .inr (by omega)
      · have hno : ∀ b, b < w3.heap.size → b ∉ ownL p mf mn vs vw fb → b ∉ ownL p mf mn vs vw (fb ++ [w3.heap.size]) := fun b h1 h2 hm => by
          rcases own_file hm with h3 | rfl
          · exact h2 h3
          · omega
        have := HZ2.out
        rintro b ((hb | ⟨h1, h2, h3⟩) | ⟨h1, h2, h3⟩)
        · exact .inl hb
        · exact .inr ⟨h1, by omega, hno b (by omega) h3⟩
        · exact .inr ⟨by omega, by omega, hno b h2 h3⟩

end Go.Proofs.YtlmdpcaikhdenaaGreat
/- Disk: how many bytes the named files have. -/
namespace Go.Proofs.YtlmdpcaikhdenaaGreat
open Go.RowKit Go.Maps

def sumOf (f : Nat → Nat) (l : NL) (left : Lit → Bool) : Nat := ((l.filter fun p => !left (.string p.1)).map fun p => f p.2).sum
theorem sumOf_start (f : Nat → Nat) (l : NL) : sumOf f l (has (nameD l)) = 0 := by
  unfold sumOf
  have : (l.filter fun p => !has (nameD l) (.string p.1)) = [] := by
    rw [List.filter_eq_nil_iff]
    intro p hp
    rw [nameD_has]
    unfold nlFind
    have h : (l.find? fun q => q.1 == p.1).isSome := by rw [List.find?_isSome]; exact ⟨p, hp, by simp⟩
    simp [h]
  rw [this]; rfl
theorem sumOf_end (f : Nat → Nat) (l : NL) (left : Lit → Bool) (h : ∀ kl, left kl = false) : sumOf f l left = (l.map fun p => f p.2).sum := by
  unfold sumOf; rw [List.filter_eq_self.2]; intro p _; simp [h]
theorem sumOf_le (f : Nat → Nat) (l : NL) (left : Lit → Bool) (M : Nat) (h : ∀ n, f n ≤ M) : sumOf f l left ≤ l.length * M := by
  unfold sumOf
  induction l with
  | nil => simp
  | cons x r ih =>
    rw [List.filter_cons]
    split
    · simp only [List.map_cons, List.sum_cons, List.length_cons]; have := h x.2; rw [Nat.succ_mul]; omega
    · simp only [List.length_cons]; rw [Nat.succ_mul]; omega
theorem rising_ne {l : NL} (h : Rising l) : l.Pairwise (fun p q => p.1 ≠ q.1) := List.Pairwise.imp (fun {a b} hab e => by rw [e, WideAt.bytes_irrefl] at hab; cases hab) h
theorem sumOf_step (f : Nat → Nat) (l : NL) (left : Lit → Bool) (k : List UInt8) (n : Nat) (hp : l.Pairwise (fun p q => p.1 ≠ q.1)) (hf : nlFind l k = some n) (hl : left (.string k) = true) :
    sumOf f l (fun z => left z && !z.sameKey (.string k)) = sumOf f l left + f n := by
  unfold sumOf
  induction l with
  | nil => simp [nlFind] at hf
  | cons x r ih =>
    obtain ⟨h1, h2⟩ := List.pairwise_cons.1 hp
    have e : (Lit.string x.1).sameKey (.string k) = (x.1 == k) := rfl
    by_cases hx : x.1 = k
    · have hr : (r.filter fun p => !((left (.string p.1)) && !(Lit.string p.1).sameKey (.string k))) = r.filter fun p => !left (.string p.1) := by
        apply List.filter_congr
        intro p hp
        have e2 : (Lit.string p.1).sameKey (.string k) = (p.1 == k) := rfl
        rw [e2]
        have : p.1 ≠ k := fun e3 => h1 p hp (by rw [hx, e3])
        have : (p.1 == k) = false := by simpa using this
        rw [this]; simp
      have ek : (Lit.string k).sameKey (.string k) = true := by rw [same_str]; simp
      have hn : n = x.2 := by unfold nlFind at hf; simp [hx] at hf; exact hf.symm
      simp only [List.filter_cons, hr, hx, hl, ek]
      simp [hn]; omega
    · have hx' : (x.1 == k) = false := by simpa using hx
      have hf' : nlFind r k = some n := by unfold nlFind at hf ⊢; rw [List.find?_cons, hx'] at hf; exact hf
      have := ih h2 hf'
      simp only [List.filter_cons, e, hx', Bool.not_false, Bool.and_true]
      by_cases hlx : left (.string x.1) = true
      · simp only [hlx, Bool.not_true, Bool.false_eq_true, if_false]; exact this
      · have hlx' : left (.string x.1) = false := by simpa using hlx
        simp only [] at this
        simp only [hlx', Bool.not_false, if_true, List.map_cons, List.sum_cons]
        omega
theorem nlFind_mem {l : NL} {k : List UInt8} {n : Nat} (h : nlFind l k = some n) : (k, n) ∈ l := by
  unfold nlFind at h
  obtain ⟨p, hp, rfl⟩ := Option.map_eq_some_iff.1 h
  have h1 := List.mem_of_find?_eq_some hp
  have h2 := List.find?_some hp
  simp at h2
  rw [← h2]; exact h1
theorem find_of_at {l : NL} {k : List UInt8} {c : Int} (h : ∀ zd : DataW Unit, (nameD l).atKey (.string k) zd = .lit (.int .i64 c)) : ∃ n : Nat, nlFind l k = some n ∧ c = (n : Int) := by
  have h1 := h .nil
  rw [nameD_at] at h1
  cases hf : nlFind l k with
  | none => rw [hf] at h1; simp at h1
  | some n => rw [hf] at h1; simp at h1; exact ⟨n, rfl, h1.symm⟩
theorem str_inv {key : Value} {kl : Lit} (h : keyOf Tryz.prog 9 key = some kl) : ∃ x : List UInt8, key = .string ⟨x.toArray⟩ ∧ kl = .string x := by
  cases key <;> simp [keyOf, Tryz.underlying9, mapKey] at h
  rename_i s
  obtain ⟨_, rfl⟩ := h
  exact ⟨s.data.toList, by simp, rfl⟩

theorem DSt.Ok.stands_le {s : DSt} {N : Nat} (h : s.Ok N) (n : Nat) : (s.stands n).length ≤ maxFile := by
  unfold DSt.stands
  rw [List.getD_eq_getElem?_getD]
  cases hg : s.files[n]? with
  | none => simp
  | some d => exact (h.files d (List.mem_of_getElem? hg)).1
theorem stands_of {s : DSt} {n : Nat} {d : List UInt8 × List UInt8} (h : s.files[n]? = some d) : s.stands n = d.1 := by unfold DSt.stands; rw [List.getD_eq_getElem?_getD, h]; rfl
theorem lasts_of {s : DSt} {n : Nat} {d : List UInt8 × List UInt8} (h : s.files[n]? = some d) : s.lasts n = d.2 := by unfold DSt.lasts; rw [List.getD_eq_getElem?_getD, h]; rfl

section
variable {w : World} {p : Nat} {s : DSt} {R : Nat → Prop} {mf mn ms : Nat} {fb : List Nat} {vs vw : Value} {ss : List Value} {ws : List (List Value)} {e : TypeId}
/-- a named file in memory -/
theorem DiskP.at_file (h : DiskP w p s R mf mn ms fb vs vw ss ws e) {n : Nat} (hn : n < s.files.length) (h63 : n < 9223372036854775808) : ∃ b e' vd vs', fb[n]? = some b ∧ w.heap[b]? = some (.cells #[vd, vs'] e' (0, 0)) ∧ BytesIn w R vd (s.stands n) ∧ BytesIn w R vs' (s.lasts n) ∧
    (Instr.lookup 107 (.map (some mf)) (.int .i64 (n : Int)) false).run Tryz.prog w = .ok (.pointer (some ⟨b, 0, none⟩)) w := by
  have hc := h.count
  have hb : n < fb.length := by omega
  obtain ⟨e', vd, vs', h1, h2, h3⟩ := h.file n fb[n] s.files[n] (by simp [hb]) (by simp [hn])
  refine ⟨fb[n], e', vd, vs', by simp [hb], h1, ?_, ?_, look_file h.filesM hb h63⟩
  · rw [stands_of (d := s.files[n]) (by simp [hn])]; exact h2
  · rw [lasts_of (d := s.files[n]) (by simp [hn])]; exact h3
end

set_option maxRecDepth 100000 in
set_option maxHeartbeats 2000000 in
theorem used_any {w : World} {p : Nat} {s : DSt} {R : Nat → Prop} {mf mn ms : Nat} {fb : List Nat} {vs vw : Value} {ss : List Value} {ws : List (List Value)} {e : TypeId} (h : DiskP w p s R mf mn ms fb vs vw ss ws e) {N : Nat} (hok : s.Ok N) (hN : N ≤ maxList) :
    Calls Tryz.prog 242 #[.pointer (some ⟨p, 0, none⟩)] w fun e w' => e = .returned (.int .i64 (s.used : Int)) ∧ Below w.heap.size w w' := by
  have c2 := cell_of_heap h.cells (i := 2) (v := .map (some mn)) (by rfl)
  have hmany := hok.manyNames
  have hmanyf := hok.manyFiles
  have hmx : maxList = 4194304 := rfl
  have hmf : maxFile = 1099511627776 := rfl
  have hbd : ∀ left, sumOf (fun n => (s.stands n).length) s.names left ≤ 4611686018427387904 := fun left => Nat.le_trans (sumOf_le _ _ _ maxFile hok.stands_le) (Nat.le_trans (Nat.mul_le_mul_right _ (Nat.le_trans hmany hN)) (by decide))
  go_enter Tryz.func242, Tryz.ntmps242
  go_wp2_with (first | (at_range; refine wpList_range_own _ rfl _ 109 rfl 9 3 (string_keyed Tryz.underlying9) Tryz.underlying109 (plainElem Tryz.prog 3) mn s.names.length (nameD s.names) rfl h.namesM ?_; intro w0 hrg0 hg0 hs0) | go_in)
  go_frame
  go_loopw [3] (fun v wr => ∃ left cnt, wr.ranges Tryz.prog 9 (plainElem Tryz.prog 3) mn w.heap.size s.names.length (nameD s.names) left cnt ∧ v = .int .i64 (sumOf (fun n => (s.stands n).length) s.names left : Int) ∧ Below w.heap.size w wr) (fun _ wr => wr.rangeLeft mn w.heap.size)
  case atStart => exact ⟨_, _, hrg0, by rw [sumOf_start]; rfl, (Chg.of_grown (O := fun _ => False) hg0 (by simp)).below (fun _ h => h.elim)⟩
  case round =>
    obtain ⟨left, cnt, hrg, rfl, hb⟩ := hrel
    go_wp2_with (at_next; refine wpList_next_ranges _ rfl _ rfl 9 (string_keyed Tryz.underlying9) (plainElem Tryz.prog 3) (fun x : List UInt8 => .string ⟨x.toArray⟩) (Value.int .i64) (fun key kl hkey => by obtain ⟨x, rfl, _⟩ := str_inv hkey; exact ⟨x, rfl⟩) (fun v y hv => by obtain ⟨c, rfl, _⟩ := plainElem_int_inv Tryz.underlying3 hv; exact ⟨c, rfl⟩) mn w.heap.size s.names.length (nameD s.names) left cnt rfl hrg ?_ ?_)
    · intro hc0 hl0
      go_wp2
      go_ret
      refine ⟨?_, hb⟩
      rw [sumOf_end _ _ _ hl0]; rfl
    · intro x c kl y1 y2 w1 cnt1 hkey hlk hv hat hrg1 hlt hg1 hs1 hen
      obtain ⟨x', ex, rfl⟩ := str_inv hkey
      obtain rfl : x = x' := by simpa using ex
      obtain ⟨c', ec, hy, hwc⟩ := plainElem_int_inv Tryz.underlying3 hv
      obtain ⟨rfl, rfl⟩ := Prod.mk.injEq _ _ _ _ ▸ hy
      obtain rfl : c = c' := by simpa using ec
      obtain ⟨n, hf, rfl⟩ := find_of_at hat
      have hn := (hok.names _ (nlFind_mem hf)).1
      have hb1 : Below w.heap.size w w1 := (hb.grown hg1 hb.size (by intro k e; cases e; exact Nat.le_refl _))
      have hD1 := h.grow hb1
      obtain ⟨fbk, e', vd, vs', _, hfh, ⟨da, dc, rfl, _⟩, _, hlf⟩ := hD1.at_file (n := n) hn (by omega)
      have c1 := cell_of_heap hD1.cells (i := 1) (v := .map (some mf)) (by rfl)
      have cf := cell_of_heap hfh (i := 0) (by rfl)
      have hst := sumOf_step (fun n => (s.stands n).length) s.names left x n (rising_ne hok.rising) hf hlk
      have hb1' := hbd left
      have hb2' := hbd (fun z => left z && !z.sameKey (.string x))
      have HST := Lib.hid hst
      rw [hst] at hb2'
      generalize hS : sumOf (fun n => (s.stands n).length) s.names left = S at *
      generalize (s.stands n).length = dl at *
      clear hD1 hfh hst
      go_wp2
      go_roundw
      case rel => exact ⟨_, cnt1, hrg1, by rw [HST.out]; go_num, hb1⟩
      case measure => rw [hrg1.left_eq, hrg.left_eq]; omega

end Go.Proofs.YtlmdpcaikhdenaaGreat
