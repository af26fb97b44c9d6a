/- Texts of this claim, one behind the other: FaL. -/
import Derived.Test.YtehmnmpkfbginaaGreatFc26
set_option linter.unusedSimpArgs false
set_option linter.unusedVariables false
/- The device's steps as a list: Steps. -/
namespace Go.Proofs.YtehmnmpkfbginaaGreat
open Go.RowKit Go.Maps Go.Shelf
attribute [local go_sem] Oper.semAt_some

section
variable {F : Fence} {n : Nat} {P : Program}
/-- as wpIn_rangeFunc_calm, where the loop's variable lies in memory (a round begins with memory that it makes) -/
theorem wpIn_rangeFunc_calm2 {α : Type} {g : Operand} {ps : Array Tmp} {assign body : Code} {Q : Exit → Act → World → Prop} {a : Act} {w : World}
    (hro : F.round = none) (h1 : 1 ≤ n) {gf : Nat} {lb : Array Value} (hg : a.eval g = .func (.func gf) #[] lb) (hFg : F.fn gf) (eg : ∀ args w, (callFunc gf args).run P w = .ok (.enter gf args) w)
    {encs : α → Array Value} {Kp : World → World → Prop} {S Sp : List α → Prop} {w0 : World} (hseq : SeqCalm F (n - 1) P gf lb encs Kp S Sp w0)
    (hKt : ∀ {A B C : World}, Kp A B → Kp B C → Kp A C) (hKl : ∀ (W : World) (o o' : Loop), W.heap[w.heap.size + 1]? = some (.loop o) → Kp W (W.putObj (w.heap.size + 1) (.loop o'))) (hb0 : Below w0.heap.size w0 w) (hps : ∀ x, (encs x).size = ps.size)
    (I : List α → World → Prop) (hI : ∀ s A B, I s A → A.grownBy B none → I s B) (hIl : ∀ s W (o o' : Loop), I s W → W.heap[w.heap.size + 1]? = some (.loop o) → I s (W.putObj (w.heap.size + 1) (.loop o'))) (h0 : I [] w)
    (hround : ∀ (l : Nat) (pre : List α) (x : α) (W : World), I pre W → Sp (pre ++ [x]) → w.heap.size + 1 < W.heap.size →
      assign.wpIn (F.inRound l) (n - 1 - 1) P (Exit.then (fun a1 W1 => (∀ b, w.heap.size ≤ b → b ≤ w.heap.size + 1 → W1.heap[b]? = W.heap[b]?) ∧ ∀ o o' : Loop, W1.heap[w.heap.size + 1]? = some (.loop o) →
        body.wpIn (F.inRound l) (n - 1 - 1) P (fun e _ W' => e = .normal ∧ (∀ b, w.heap.size ≤ b → b ≤ w.heap.size + 1 → W'.heap[b]? = (W1.putObj (w.heap.size + 1) (.loop o')).heap[b]?) ∧ Kp W W' ∧ I (pre ++ [x]) W') a1 (W1.putObj (w.heap.size + 1) (.loop o'))) (fun _ _ _ => False))
        { tmps := (ps.zip (encs x)).foldl (fun t (p, v) => t.setIfInBounds p v) a.tmps, defers := [] } W)
    (hdone : ∀ (xs : List α) (W : World), S xs → I xs W → W.heap[w.heap.size]? = some (.deferred (some [])) → Q .normal { a with defers := { target := .collected w.heap.size, args := #[] } :: a.defers } W) :
    (Code.rangeFunc g ps assign body).wpIn F n P Q a w := by
  refine wpIn_rangeFunc fun fn hfn => ?_
  rw [hro]
  let st : LoopState → Loop := fun s => { state := s, pending := none, fn, tmps := a.tmps, params := ps, assign, body, defers := w.heap.size }
  obtain ⟨V, hV⟩ : ∃ V, (w.alloc (.deferred (some []))).alloc (.loop (st .ready)) = V := ⟨_, rfl⟩
  have hVl : V.heap[w.heap.size + 1]? = some (.loop (st .ready)) := by
    have := World.alloc_heap_new (w.alloc (.deferred (some []))) (.loop (st .ready))
    rw [World.size_alloc, hV] at this; exact this
  have hVd : V.heap[w.heap.size]? = some (.deferred (some [])) := by rw [← hV]; exact (Below.heap_alloc _ _ _ (by simp)).trans (World.alloc_heap_new w _)
  have hVI : I [] V := by
    rw [← hV]
    exact hI _ _ _ (hI _ _ _ h0 (World.grownBy_alloc _ _ none)) (World.grownBy_alloc _ _ none)
  have hVb : Below w0.heap.size w0 V := by rw [← hV]; exact hb0.trans ((((Below.refl _ w).alloc (Nat.le_refl _) _).alloc (by simp) _).mono hb0.size)
  refine ⟨w.heap.size + 1, [{ target := .collected w.heap.size, args := #[] }], V, { target := .fn (.func gf) lb, args := #[.func (.yield (w.heap.size + 1)) #[] #[]] }, V, gf,
    #[.func (.yield (w.heap.size + 1)) #[] #[]] ++ lb, V, ?_, ?_, ?_, ?_, fun _ => h1, ?_⟩
  · rw [← hV]; exact run_enterLoop_outer _ _ _ _ _
  · simp only [resolve, hg]
    simp [go_sem]
  · intro f' hf'; simp [Target.leads] at hf'; subst hf'; exact hFg
  · simp [invoke, go_sem, eg]
  refine (hseq (w.heap.size + 1) (fun s W => I s W ∧ W.heap[w.heap.size + 1]? = some (.loop (st .ready)) ∧ W.heap[w.heap.size]? = some (.deferred (some []))) V hVb ?_ ?_ ⟨hVI, hVl, hVd⟩).mono ?_
  · rintro s A B ⟨i1, i2, i3⟩ hgr
    exact ⟨hI _ _ _ i1 hgr, (hgr.block _ (heap_lt i2) (by simp)).trans i2, (hgr.block _ (heap_lt i3) (by simp)).trans i3⟩
  · rintro pre x W ⟨i1, i2, i3⟩ hpre
    have hlt := heap_lt i2
    refine ⟨fn, _, assign, body, run_yield (P := P) (args := encs x) i2 (by exact hps x), roundIn_of_wpIn hfn (wpIn_mono (hround _ pre x W i1 hpre hlt) ?_)⟩
    intro e a1 W1 he
    cases e with
    | normal =>
      obtain ⟨hsm, hbd⟩ : (∀ b, w.heap.size ≤ b → b ≤ w.heap.size + 1 → W1.heap[b]? = W.heap[b]?) ∧ _ := he
      have k2 := (hsm (w.heap.size + 1) (by omega) (Nat.le_refl _)).trans i2
      have k3 := (hsm w.heap.size (Nat.le_refl _) (by omega)).trans i3
      have hlt1 := heap_lt k2
      refine ⟨_, run_beginRound k2 rfl, ?_⟩
      have j2 : (W1.putObj (w.heap.size + 1) (.loop (st .busy))).heap[w.heap.size + 1]? = some (.loop (st .busy)) := World.putObj_heap_same hlt1
      have j3 : (W1.putObj (w.heap.size + 1) (.loop (st .busy))).heap[w.heap.size]? = some (.deferred (some [])) := (World.putObj_heap_other (by omega)).trans k3
      refine wpIn_mono (hbd (st .ready) (st .busy) k2) ?_
      rintro e a3 W3 ⟨rfl, hsame, hK3, hI3⟩
      have m2 := (hsame (w.heap.size + 1) (by omega) (Nat.le_refl _)).trans j2
      have m3 := (hsame w.heap.size (Nat.le_refl _) (by omega)).trans j3
      exact ⟨_, _, run_endRound (P := P) none m2, rfl, ⟨hIl _ _ _ _ hI3 m2, World.putObj_heap_same (heap_lt m2), (World.putObj_heap_other (by omega)).trans m3⟩, hKt hK3 (hKl _ _ _ m2)⟩
    | _ => exact he.elim
  · rintro e W2 ⟨⟨v, rfl⟩, xs, hS, i1, i2, i3⟩
    exact ⟨none, _, run_endLoop (P := P) i2 (by simp [st]), hdone xs _ hS (hIl _ _ _ _ i1 i2) ((World.putObj_heap_other (by omega)).trans i3)⟩
end

set_option maxRecDepth 100000 in
set_option maxHeartbeats 4000000 in
theorem fall1_calm (n : Nat) (hn : 1 ≤ n) {F1 G1 : Nat → Prop} {w : World} {pf pd : Nat} {f : FSt} {vf vd : Value} {e : TypeId} (h : FaultP F1 G1 w pf pd f vf vd e) (hdn : f.done.length < 1048576)
    {bd : Nat} (hbd : Boxed w bd 36 (.pointer (some ⟨pf, 0, none⟩))) (hi : Nat) (hpf : pf < hi) (hvd : ∀ b, vd.ownBlock = some b → b < hi) (kt : TypeId → Prop) :
    SeqCalm Fence.wide n Tryz.prog 30 #[.pointer (some ⟨bd, 0, none⟩)] (itemS f.done) (KpT hi kt) (fun xs => xs = List.finRange f.done.length) (fun pre => pre <+: List.finRange f.done.length) w := by
  intro l J W hW hJ hY h0
  have hbx : Boxed W bd 36 (.pointer (some ⟨pf, 0, none⟩)) := (hW.block bd hbd.lt).trans hbd
  have hP := h.kept (O := fun _ => False) (Chg.of_below hW) (fun _ _ h => h) (fun h => h) (fun _ _ h => h) (fun _ _ h => h)
  obtain ⟨va, vc, rfl, _, _, hat⟩ := ownsRow_at hP.done
  have hrow := hP.done
  have c4 := cell_of_heap hP.cells (i := 4) (v := .slice va f.done.length vc) (by rfl)
  refine callsIn_of_wp Tryz.func30 rfl trivial ?_ rfl
  simp only [Tryz.ntmps30, List.size_toArray, List.length_cons, List.length_nil, Nat.reduceAdd, Nat.reduceSub, Array.replicate_succ, Array.replicate_zero, List.push_toArray, List.append_toArray, List.nil_append, List.cons_append]
  have HY := Lib.hid hY; clear hY
  have c5 := hbx.cell
  have HAT := Lib.hid (And.intro hat hrow)
  clear hat hrow
  gi_wp2
  have hJ1 : J [] W := h0
  obtain ⟨xs, hxs⟩ : ∃ xs, xs = List.finRange f.done.length := ⟨_, rfl⟩
  have hlen : xs.length = f.done.length := by rw [hxs]; simp
  have hget : ∀ k (hk : k < f.done.length), xs[k]? = some ⟨k, hk⟩ := fun k hk => by rw [hxs]; exact finRange_get _ _ hk
  have hsz1 := hW.size
  have HXS := Lib.hid (And.intro hxs (And.intro hlen hget))
  clear hxs hlen hget
  gi_loopw [12] (fun i wr => ∃ k : Nat, k ≤ f.done.length ∧ i = .int .i64 k ∧ J (xs.take k) wr ∧ KpT hi kt W wr) (fun i _ => f.done.length - (RowKit.intOf i).toNat)
  case atStart => exact ⟨0, by omega, rfl, by simpa using hJ1, KpT.refl _ _ _⟩
  case round =>
    obtain ⟨k, hk, rfl, hJs, hkp⟩ := hrel
    obtain ⟨hxs, hlen, hget⟩ := HXS.out
    by_cases hlt : k < f.done.length
    · obtain ⟨s, hs⟩ : ∃ s, f.done[k] = s := ⟨_, rfl⟩
      obtain ⟨_, _, _, _, _, hat2⟩ := ownsRow_at (hkp.rowLt HAT.out.2 hvd)
      have hc : ∀ (j : Nat) u, j < 6 → (encFS s)[j]? = some u → ∃ g, va = some ⟨g, 0, none⟩ ∧ wr.cell? ⟨g, k * 6 + j, none⟩ = some u := fun j u hj hu => by
        obtain ⟨a', c', e1, _, _, hat3⟩ := ownsRow_at (hkp.rowLt HAT.out.2 hvd)
        cases e1
        exact hat3 _ u (encFS_at hlt j u hj (by rw [hs]; exact hu))
      obtain ⟨g, rfl, d0⟩ := hc 0 (.int .i64 s.op) (by omega) rfl
      have dd : ∀ (j : Nat) u, j < 6 → (encFS s)[j]? = some u → wr.cell? ⟨g, k * 6 + j, none⟩ = some u := fun j u hj hu => by
        obtain ⟨g', e1, h1⟩ := hc j u hj hu
        cases e1; exact h1
      have d00 : wr.cell? ⟨g, k * 6, none⟩ = some (.int .i64 s.op) := d0
      clear d0
      have d1 := dd 1 (.string ⟨s.name.toArray⟩) (by omega) rfl
      have d2 := dd 2 (.string ⟨s.dst.toArray⟩) (by omega) rfl
      have d3 := dd 3 (.int .i64 s.at_) (by omega) rfl
      have d4 := dd 4 (.int .i64 s.size) (by omega) rfl
      have d5 := dd 5 (.int .i64 s.err) (by omega) rfl
      obtain ⟨W2, hW2⟩ : ∃ W2, wr.alloc (.cells #[.int .i64 s.op, .string ⟨s.name.toArray⟩, .string ⟨s.dst.toArray⟩, .int .i64 s.at_, .int .i64 s.size, .int .i64 s.err] 87) = W2 := ⟨_, rfl⟩
      have hb2 : Below wr.heap.size wr W2 := by rw [← hW2]; exact below_alloc _ _
      have hbw : W2.heap[wr.heap.size]? = some (.cells #[.int .i64 s.op, .string ⟨s.name.toArray⟩, .string ⟨s.dst.toArray⟩, .int .i64 s.at_, .int .i64 s.size, .int .i64 s.err] 87 (0, 0)) := by rw [← hW2]; exact World.alloc_heap_new wr _
      have e0 := cell_of_heap hbw (i := 0) (v := .int .i64 s.op) (by rfl)
      have e1 := cell_of_heap hbw (i := 1) (v := .string ⟨s.name.toArray⟩) (by rfl)
      have e2 := cell_of_heap hbw (i := 2) (v := .string ⟨s.dst.toArray⟩) (by rfl)
      have e3 := cell_of_heap hbw (i := 3) (v := .int .i64 s.at_) (by rfl)
      have e4 := cell_of_heap hbw (i := 4) (v := .int .i64 s.size) (by rfl)
      have e5 := cell_of_heap hbw (i := 5) (v := .int .i64 s.err) (by rfl)
      have hx := hget k hlt
      have hJd : J (xs.take k) W2 := hJ _ wr W2 hJs (Below.grownBy hb2)
      have hstep : xs.take k ++ [⟨k, hlt⟩] = xs.take (k + 1) := by rw [List.take_add_one, hx]; rfl
      obtain ⟨fn, tmps, assign, body, hy, hR⟩ := HY.out _ ⟨k, hlt⟩ W2 hJd (by rw [hstep, ← hxs]; exact List.take_prefix _ _)
      rw [hstep] at hR
      simp only [itemS, Fin.getElem_fin, hs, encFS, sv] at hy
      have HST := Lib.hid hstep; clear hstep hx
      have j0 : (0 : Int) ≤ (k : Int) := by omega
      have j1 : (k : Int) < (f.done.length : Int) := by omega
      clear hc dd hat2 hbw hs
      have HK2 := Lib.hid (KpT.of_below (hi := hi) (kt := kt) hb2)
      have HW2 := Lib.hid hW2
      clear hW2 hxs hlen hget
      gi_wp2_with (first | rw [HW2.out] | (refine hR.mono ?_; rintro e3 W3 ⟨rfl, hj3, hk3⟩))
      all_goals exact ⟨⟨k + 1, by omega, by go_num, hj3, (hkp.trans HK2.out).trans hk3⟩, by simp [RowKit.intOf]; omega⟩
    · obtain rfl : k = f.done.length := by omega
      have hxs := HXS.out.1
      gi_wp2
      go_end0
      exact ⟨⟨_, rfl⟩, _, rfl, by rw [← HXS.out.1]; rwa [List.take_of_length_le (by have := HXS.out.2.1; omega)] at hJs⟩

theorem KpT.loop {hi : Nat} (W : World) {l : Nat} (o' : Obj) (hl : hi ≤ l) : KpT hi (fun _ => False) W (W.putObj l o') :=
  ⟨by simp [World.putObj], fun b o hb h => by
    rcases h with h | ⟨_, _, _, _, h⟩
    · exact (World.putObj_heap_other (by omega)).trans hb
    · exact h.elim⟩
theorem Chg.belowLo5 {O : Nat → Prop} {w w' : World} {lo : Nat} (h : Chg O w w') (hlo : lo ≤ w.heap.size) (hO : ∀ k, O k → lo ≤ k) : Below lo w w' := ⟨h.os, h.tape, h.output, h.size, fun k hk => h.block k (by omega) (fun ho => by have := hO k ho; omega)⟩
theorem chg_putObj (W : World) (l : Nat) (o : Obj) : Chg (· = l) W (W.putObj l o) := ⟨rfl, rfl, rfl, by simp [World.putObj], fun k _ hk => World.putObj_heap_other hk⟩
set_option maxRecDepth 100000 in
set_option maxHeartbeats 4000000 in
theorem fsteps_any {F1 G1 : Nat → Prop} {w : World} {pf pd : Nat} {f : FSt} {vf vd : Value} {e : TypeId} (h : FaultP F1 G1 w pf pd f vf vd e) (hdn : f.done.length < 1048576) :
    Calls Tryz.prog 22 #[.pointer (some ⟨pf, 0, none⟩)] w fun e w' => ∃ v, e = .returned v ∧ w'.ownsRow w.heap.size 87 6 v f.done.length ((f.done.map encFS).flatten) ∧ Below w.heap.size w w' := by
  have hmax : maxLen = 9223372036854775807 := rfl
  refine (callsIn_wide (n := 6)).1 ?_
  have cA := fun w => (callsIn_wide (n := 5)).2 (fAll_any (some ⟨pf, 0, none⟩) w)
  refine callsIn_of_wp_marks Tryz.func22 rfl trivial ?_ rfl
  simp only [Tryz.ntmps22, List.size_toArray, List.length_cons, List.length_nil, Nat.reduceAdd, Nat.reduceSub, Array.replicate_succ, Array.replicate_zero, List.push_toArray, List.append_toArray, List.nil_append, List.cons_append]
  have hfA : Fence.wide.fn 15 := trivial
  gi_wp2_with (gi_at_call 15; refine (cA _).mono ?_; rintro e1 W1 ⟨rfl, rfl⟩)
  obtain ⟨w3, hw3⟩ : ∃ w3, (w.alloc (.cells #[.slice none 0 0] 60)).alloc (.cells #[.pointer (some ⟨pf, 0, none⟩)] 36) = w3 := ⟨_, rfl⟩
  have hb3 : Below w.heap.size w w3 := by rw [← hw3]; exact (below_alloc w _).alloc (by simp) _
  have hz3 : w3.heap.size = w.heap.size + 2 := by rw [← hw3]; simp
  have hbo : Boxed w3 w.heap.size 60 (.slice none 0 0) := by rw [← hw3]; exact (Boxed.new w 60 (.slice none 0 0)).alloc _
  have hbd : Boxed w3 (w.heap.size + 1) 36 (.pointer (some ⟨pf, 0, none⟩)) := by rw [← hw3]; have := Boxed.new (w.alloc (.cells #[.slice none 0 0] 60)) 36 (.pointer (some ⟨pf, 0, none⟩)); rwa [World.size_alloc] at this
  rw [hw3]
  clear hw3
  have h3 := h.kept (O := fun _ => False) (Chg.of_below hb3) (fun _ _ h => h) (fun h => h) (fun _ _ h => h) (fun _ _ h => h)
  have hpl := heap_lt h.cells
  have hvl : ∀ b, vd.ownBlock = some b → b < w.heap.size := fun b hb => (h.done.lt b hb).2
  refine wpIn_rangeFunc_calm2 rfl (by omega) (gf := 30) (lb := #[.pointer (some ⟨w.heap.size + 1, 0, none⟩)]) rfl trivial (enters_of Tryz.func30 (by kernel_rfl) rfl)
    (fall1_calm 5 (by omega) h3 hdn hbd w.heap.size hpl hvl (fun _ => False)) (fun h k => h.trans k) (fun W o o' _ => KpT.loop W _ (by omega)) (Below.refl _ _) (fun _ => rfl)
    (fun pre W => Below w.heap.size w W ∧ ∃ v, Boxed W w.heap.size 60 v ∧ W.ownsRow (w.heap.size + 4) 87 6 v pre.length ((pre.map (fun i : Fin f.done.length => encFS f.done[i])).flatten))
    (fun s A B ⟨h1, v, h2, h3⟩ hg => ?_) (fun s W o o' ⟨h1, v, h2, h3⟩ hl => ?_) ⟨hb3, _, hbo, World.ownsRow_nil _ _ _ _⟩ ?round ?done
  case round =>
    rintro l pre x W ⟨h1, v, h2, h4⟩ hpre hlt
    obtain ⟨s, hs⟩ : ∃ s, f.done[x] = s := ⟨_, rfl⟩
    simp only [itemS, hs]
    simp only [encFS, sv]
    have hs1 := h1.size
    gi_wp2
    obtain ⟨W1, hW1⟩ : ∃ W1, W.alloc (.cells #[.int .i64 s.op, .string ⟨s.name.toArray⟩, .string ⟨s.dst.toArray⟩, .int .i64 s.at_, .int .i64 s.size, .int .i64 s.err] 87) = W1 := ⟨_, rfl⟩
    have hbA : Below W.heap.size W W1 := by rw [← hW1]; exact below_alloc _ _
    have hzA : W1.heap.size = W.heap.size + 1 := by rw [← hW1]; simp
    have hxA : W1.heap[W.heap.size]? = some (.cells #[.int .i64 s.op, .string ⟨s.name.toArray⟩, .string ⟨s.dst.toArray⟩, .int .i64 s.at_, .int .i64 s.size, .int .i64 s.err] 87 (0, 0)) := by rw [← hW1]; exact World.alloc_heap_new W _
    rw [hW1]
    clear hW1
    refine ⟨fun b _ hb => hbA.block b (by omega), fun o o' _ => ?_⟩
    obtain ⟨W2, hW2⟩ : ∃ W2, W1.putObj (w3.heap.size + 1) (.loop o') = W2 := ⟨_, rfl⟩
    have hcP : Chg (· = w3.heap.size + 1) W1 W2 := by rw [← hW2]; exact chg_putObj _ _ _
    have hz2 : W2.heap.size = W.heap.size + 1 := by rw [← hW2, ← hzA]; simp [World.putObj]
    rw [hW2]
    clear hW2
    have hcW : Chg (· = w3.heap.size + 1) W W2 := (Chg.of_below hbA).trans hcP (fun _ h _ => h)
    have h2' := hcW.obj h2 (by omega)
    have h4' := hcW.row h4 (fun b hb e => by have := (h4.lt b hb).1; omega)
    have hx2 := hcP.obj hxA (by omega)
    have c2 := Boxed.cell h2'
    have z2 := Boxed.frozen h2'
    obtain ⟨va, vc, rfl, _, _, _⟩ := ownsRow_at h4'
    have e0 := cell_of_heap hx2 (i := 0) (v := .int .i64 s.op) (by rfl)
    have e1 := cell_of_heap hx2 (i := 1) (v := .string ⟨s.name.toArray⟩) (by rfl)
    have e2 := cell_of_heap hx2 (i := 2) (v := .string ⟨s.dst.toArray⟩) (by rfl)
    have e3 := cell_of_heap hx2 (i := 3) (v := .int .i64 s.at_) (by rfl)
    have e4 := cell_of_heap hx2 (i := 4) (v := .int .i64 s.size) (by rfl)
    have e5 := cell_of_heap hx2 (i := 5) (v := .int .i64 s.err) (by rfl)
    obtain ⟨i0, hi, hz0, hz1, hz9⟩ := info_parts Tryz.info87
    have hpl' : pre.length ≤ f.done.length := by have := hpre.length_le; simp at this; omega
    have HCW := Lib.hid hcW
    have HZ2 := Lib.hid hz2
    have HS := Lib.hid hs
    have HL := Lib.hid hlt
    clear hcW hcP hbA hzA hxA hx2 hs hz2 h3 h
    gi_wp2_with (gi_at_builtin; refine wpListIn_append_own _ rfl _ _ 60 rfl (w.heap.size + 4) 87 i0 _ 6 64 Tryz.underlying60 hi hz0 hz1 hz9 rfl (by decide) _ _ _ rfl (h4'.alloc _) ⟨W2.heap.size, 0, none⟩ 1 1 (encFS s) rfl rfl (fun j u hu => by rw [addr_add]; exact cell_new W2 _ _ j u (by simpa [encFS, sv] using hu)) (by simp [encFS, sv, Value.oneCell']) (by omega) (by omega) (by simp; have := HZ2.out; omega) ?_; intro v' W4 hown' hgrow _; obtain ⟨g', cap', rfl⟩ := ownsRow_succ hown'; have hcA : Chg (fun b => (Value.slice va pre.length vc).ownBlock = some b) W2 W4 := (Chg.alloc _ W2 _).trans (Chg.of_grown hgrow (fun k e _ => e)) (fun _ h _ => h); have hbo4 : Boxed W4 w.heap.size 60 (.slice va pre.length vc) := hcA.obj h2' (fun e => by have := (h4'.lt _ e).1; omega); have c4 := hbo4.cell; have z4 := hbo4.frozen)
    have hcF : Chg (fun b => b = w3.heap.size + 1 ∨ (Value.slice va pre.length vc).ownBlock = some b) W W4 := (HCW.out.mono (fun _ h _ => Or.inl h)).trans hcA (fun _ h _ => .inr h)
    have hcS : Chg (· = w.heap.size) W4 (W4.setCell ⟨w.heap.size, 0, none⟩ (.slice (some ⟨g', 0, none⟩) (pre.length + 1) cap')) := Chg.set _ rfl
    have hvb : ∀ b, (Value.slice va pre.length vc).ownBlock = some b → w.heap.size + 4 ≤ b := fun b hb => (h4'.lt b hb).1
    have hz2 := HZ2.out
    have hcB : Chg (fun b => b = w.heap.size ∨ (Value.slice va pre.length vc).ownBlock = some b) W2 (W4.setCell ⟨w.heap.size, 0, none⟩ (.slice (some ⟨g', 0, none⟩) (pre.length + 1) cap')) := (hcA.mono (fun _ h _ => Or.inr h)).trans hcS (fun _ h _ => .inl h)
    have hcAll : Chg (fun b => w.heap.size ≤ b) W (W4.setCell ⟨w.heap.size, 0, none⟩ (.slice (some ⟨g', 0, none⟩) (pre.length + 1) cap')) := (hcF.mono (fun b h _ => by rcases h with h | h; omega; have := hvb b h; omega)).trans hcS (fun b h _ => by have h : b = w.heap.size := h; omega)
    have hrow5 := hcS.row hown' (fun b hb e => by have := (hown'.lt b hb).1; omega)
    refine ⟨fun b q1 q2 => hcB.block b (by omega) (fun e => by rcases e with e | e; omega; have := hvb b e; omega), KpT.of_chg hcAll (fun b hb => hb) (fun _ _ _ _ _ _ h => h), h1.trans (hcAll.belowLo5 h1.size (fun k h => h)), _, Boxed.set _ hbo4, ?_⟩
    have hs := HS.out
    simp only [Fin.getElem_fin] at hs
    rw [hs]
    exact hrow5
  case done =>
    rintro xs W rfl ⟨h1, v, h2, h5⟩ hK
    have hall : (List.finRange f.done.length).map (fun i : Fin f.done.length => encFS f.done[i]) = f.done.map encFS := by
      apply List.ext_getElem
      · simp
      · intro i k1 k2; simp
    rw [hall, List.length_finRange] at h5
    clear hall
    obtain ⟨va, vc, rfl, _, _, _⟩ := ownsRow_at h5
    have c2 := h2.cell
    have hDd := heap_lt hK
    gi_wp2
    refine ⟨by simp, .inl ⟨_, _, rfl, run_takeDeferred hK, ?_⟩⟩
    have hg : Chg (· = w3.heap.size) W (W.putObj w3.heap.size (.deferred none)) := chg_putObj _ _ _
    exact ⟨_, results_tmp (t := 2) rfl _ _ _, _, rfl, ownsRow_base_le (hg.row h5 (fun b hb e => by have := (h5.lt b hb).1; omega)) (by omega), h1.trans (hg.belowLo5 h1.size (fun k hk => by omega))⟩
  · exact ⟨h1.grown hg h1.size (fun k e => by cases e), v, (Chg.of_grown (O := fun _ => False) hg (fun k e => by cases e)).obj h2 (fun h => h), (Chg.of_grown (O := fun _ => False) hg (fun k e => by cases e)).row h3 (fun _ _ h => h)⟩
  · have hg : Chg (· = w3.heap.size + 1) W (W.putObj (w3.heap.size + 1) (.loop o')) := chg_putObj _ _ _
    exact ⟨h1.trans (hg.belowLo5 h1.size (fun k hk => by omega)), v, hg.obj h2 (by omega), hg.row h3 (fun b hb e => by have := (h3.lt b hb).1; omega)⟩

end Go.Proofs.YtehmnmpkfbginaaGreat
