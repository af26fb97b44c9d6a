/- Texts of this claim, one behind the other: DkT, DlG, SgR, SgS, SgT, SgU, DlH. -/
import Derived.Test.YtlmdpcaikhdenaaGreatSl15
import Derived.Deep.AppendLies
import Derived.BigQuiet
import Derived.Test.YtlmdpcaikhdenaaGreatSl11
import Derived.Deep.RegionHeld3
import Derived.Deep.CutBlock
import Derived.Test.YtlmdpcaikhdenaaGreatSl10
import Derived.Deep.CutRange
set_option linter.unusedSimpArgs false
set_option linter.unusedVariables false
/- Disk: Files. -/
namespace Go.Proofs.YtlmdpcaikhdenaaGreat
open Go.RowKit Go.Maps Go.Shelf
attribute [local go_sem] Oper.semAt_some

theorem boxed_from {W W' : World} {row : Option Nat} {B b : Nat} {t : TypeId} {v : Value} (h : Boxed W b t v) (hg : W.grownBy W' row) (hr : ∀ r, row = some r → B ≤ r ∧ ∃ o : Obj, W.heap[r]? = some o ∧ o.isCells = false) : Boxed W' b t v := by
  refine h.kept hg fun e => ?_
  obtain ⟨_, o, ho, hc⟩ := hr b e.symm
  rw [show W.heap[b]? = _ from h] at ho
  cases ho; cases hc
theorem cell_isCells {w : World} {a : Addr} {v : Value} (h : w.cell? a = some v) : ∃ cs t fr, w.heap[a.block]? = some (.cells cs t fr) := by
  unfold World.cell? at h
  split at h
  · rename_i cs t fr hb; exact ⟨_, _, _, hb⟩
  · cases h
theorem RowAt.from {W W' : World} {a : Option Addr} {xs : List Value} {row : Option Nat} (h : RowAt W a xs) (hg : W.grownBy W' row) (hr : ∀ r, row = some r → ∃ o : Obj, W.heap[r]? = some o ∧ o.isCells = false) : RowAt W' a xs := fun hx => by
  obtain ⟨b, off, e, hc⟩ := h hx
  refine ⟨b, off, e, fun j u hu => ?_⟩
  have hcell := hc j u hu
  obtain ⟨cs, t, fr, hb⟩ := cell_isCells hcell
  rw [hg.cell_far _ (cell_lt hcell) (fun e => ?_)]
  · exact hcell
  · obtain ⟨o, ho, hoc⟩ := hr _ e.symm
    rw [show W.heap[b]? = _ from hb] at ho
    cases ho; cases hoc
theorem BytesIn.from {W W' : World} {R : Nat → Prop} {U : Value} {l : List UInt8} {row : Option Nat} (h : BytesIn W R U l) (hg : W.grownBy W' row) (hr : ∀ r, row = some r → ∃ o : Obj, W.heap[r]? = some o ∧ o.isCells = false) : BytesIn W' R U l := by
  obtain ⟨a, c, e, h1, h2, h3, h4, h5, h6⟩ := h
  refine ⟨a, c, e, h1, h2, h3.from hg hr, h4, h5, h6.kept hg ?_⟩
  cases hv : (Value.slice a l.length c).ownBlock with
  | none => exact .inl rfl
  | some k =>
    refine .inr (fun e => ?_)
    obtain ⟨o, ho, hoc⟩ := hr k e.symm
    rcases h6.2 with ⟨e1, _⟩ | ⟨g, cap, cur, e1, _, hb, _⟩
    · rw [e1] at hv; cases hv
    · rw [e1] at hv
      cases hv
      rw [hb] at ho
      cases ho; cases hoc

/-- the block of a file's bytes -/
def fileBlock (c : List Value) : Option Nat := c[1]?.bind Value.ownBlock
/-- files as they are told, in memory that is new from lo on -/
structure FilesAt (W : World) (lo bo : Nat) (v : Value) (cs : List (List Value)) (L : List (List UInt8 × List UInt8)) : Prop where
  row : W.ownsRow lo 156 2 v L.length cs.flatten
  count : cs.length = L.length
  file : ∀ (i : Nat) c d, cs[i]? = some c → L[i]? = some d → ∃ U, c = [sv d.1, U] ∧ BytesIn W (fun b => lo ≤ b ∧ b < W.heap.size ∧ v.ownBlock ≠ some b ∧ b ≠ bo) U d.2
  apart : cs.Pairwise (fun x y => ∀ k, fileBlock x = some k → fileBlock y ≠ some k)
theorem FilesAt.from {W W' : World} {lo bo : Nat} {v : Value} {cs : List (List Value)} {L : List (List UInt8 × List UInt8)} {row : Option Nat} (h : FilesAt W lo bo v cs L) (hg : W.grownBy W' row) (hr : ∀ r, row = some r → ∃ o : Obj, W.heap[r]? = some o ∧ o.isCells = false) : FilesAt W' lo bo v cs L where
  row := h.row.kept hg (by
    cases hv : v.ownBlock with
    | none => exact .inl rfl
    | some k =>
      refine .inr (fun e => ?_)
      obtain ⟨o, ho, hoc⟩ := hr k e.symm
      rcases h.row.2 with ⟨rfl, _⟩ | ⟨g, cap, cur, rfl, _, hb, _⟩
      · cases hv
      · cases hv
        rw [hb] at ho
        cases ho; cases hoc)
  count := h.count
  file := fun i c d hc hd => by obtain ⟨U, e, hU⟩ := h.file i c d hc hd; exact ⟨U, e, (hU.from hg hr).mono (fun b h => ⟨h.1, Nat.lt_of_lt_of_le h.2.1 hg.size, h.2.2⟩)⟩
  apart := h.apart
theorem BytesIn.block {w : World} {R : Nat → Prop} {v : Value} {l : List UInt8} (h : BytesIn w R v l) {k : Nat} (hk : v.ownBlock = some k) : R k := by
  obtain ⟨a, c, rfl, _, _, _, h4, h5, _⟩ := h
  cases a with
  | none => cases hk
  | some x =>
    have h := h5 x rfl
    rw [h] at hk
    cases hk
    exact h4 x rfl

theorem keepsOthers_chg {O : Nat → Prop} {W W' : World} (h : Chg O W W') (hO : ∀ b o, O b → W.heap[b]? = some o → o.isCells = true) : KeepsOthers W W' :=
  ⟨h.size, fun b o hb hc => h.obj hb (fun ho => by rw [hO b o ho hb] at hc; cases hc)⟩
theorem FilesAt.ne_bo {W : World} {lo bo : Nat} {v : Value} {cs : List (List Value)} {L : List (List UInt8 × List UInt8)} (h : FilesAt W lo bo v cs L) {u : Value} (hbo : Boxed W bo 82 u) : v.ownBlock ≠ some bo := by
  intro e
  rcases h.row.2 with ⟨rfl, _⟩ | ⟨g, cap, cur, rfl, _, hb, _⟩
  · cases e
  · cases e
    rw [show W.heap[g]? = _ from hbo] at hb
    simp at hb

/-- one more file -/
theorem FilesAt.push {W w5 w7 : World} {lo bo : Nat} {v : Value} {cs : List (List Value)} {L : List (List UInt8 × List UInt8)} (h : FilesAt W lo bo v cs L) (hbo : Boxed W bo 82 v) (hlo : lo ≤ bo) (_hlW : lo ≤ W.heap.size) (hc5 : Chg (fun _ => False) W w5)
    {nm l : List UInt8} {U : Value} {R : Nat → Prop} (hR : ∀ b, R b → W.heap.size ≤ b ∧ b < w5.heap.size) (hU : BytesIn w5 R U l) {g7 cap7 : Nat} (hown : w7.ownsRow lo 156 2 (.slice (some ⟨g7, 0, none⟩) (L.length + 1) cap7) (L.length + 1) (cs.flatten ++ [sv nm, U])) (hg : (w5.alloc (.cells #[sv nm, U] 156)).grownBy w7 v.ownBlock) (hat : v.ownBlock = some g7 ∨ g7 = w5.heap.size + 1) :
    KeepsOthers W (w7.setCell ⟨bo, 0, none⟩ (.slice (some ⟨g7, 0, none⟩) (L.length + 1) cap7)) ∧ KpT lo (fun t => t ≠ 156 ∧ t ≠ 82) W (w7.setCell ⟨bo, 0, none⟩ (.slice (some ⟨g7, 0, none⟩) (L.length + 1) cap7)) ∧ (∀ w, Below lo w W → Below lo w (w7.setCell ⟨bo, 0, none⟩ (.slice (some ⟨g7, 0, none⟩) (L.length + 1) cap7))) ∧
      Boxed (w7.setCell ⟨bo, 0, none⟩ (.slice (some ⟨g7, 0, none⟩) (L.length + 1) cap7)) bo 82 (.slice (some ⟨g7, 0, none⟩) (L.length + 1) cap7) ∧
      FilesAt (w7.setCell ⟨bo, 0, none⟩ (.slice (some ⟨g7, 0, none⟩) (L.length + 1) cap7)) lo bo (.slice (some ⟨g7, 0, none⟩) (L.length + 1) cap7) (cs ++ [[sv nm, U]]) (L ++ [(nm, l)]) := by
  have hne := h.ne_bo hbo
  have hbl := hbo.lt
  have hvl : ∀ k, v.ownBlock = some k → lo ≤ k ∧ k < W.heap.size := fun k hk => h.row.lt k hk
  have hs5 := hc5.size
  have hg7 : g7 ≠ bo := by
    rcases hat with e | e
    · intro e2; subst e2; exact hne e
    · omega
  have hcg : Chg (fun b => v.ownBlock = some b) (w5.alloc (.cells #[sv nm, U] 156)) w7 := Chg.of_grown hg (fun k e _ => e)
  have hc67 : Chg (fun b => v.ownBlock = some b) w5 w7 := (Chg.alloc _ w5 _).trans hcg (fun _ h _ => h)
  have hc07 : Chg (fun b => v.ownBlock = some b) W w7 := (hc5.mono (fun _ h _ => h.elim)).trans hc67 (fun _ h _ => h)
  have hcs : Chg (· = bo) w7 (w7.setCell ⟨bo, 0, none⟩ (.slice (some ⟨g7, 0, none⟩) (L.length + 1) cap7)) := Chg.set _ rfl
  have hc : Chg (fun b => v.ownBlock = some b ∨ b = bo) W (w7.setCell ⟨bo, 0, none⟩ (.slice (some ⟨g7, 0, none⟩) (L.length + 1) cap7)) := (hc07.mono (O' := fun b => v.ownBlock = some b ∨ b = bo) (fun _ h _ => .inl h)).trans hcs (fun _ h _ => .inr h)
  have hcell : ∀ b o, (v.ownBlock = some b ∨ b = bo) → W.heap[b]? = some o → ∃ cs t fr, o = .cells cs t fr ∧ (t = 156 ∨ t = 82) := by
    intro b o hb ho
    rcases hb with hb | rfl
    · rcases h.row.2 with ⟨rfl, _⟩ | ⟨g, cap, cur, rfl, _, hh, _⟩
      · cases hb
      · cases hb
        rw [hh] at ho; cases ho
        exact ⟨_, _, _, rfl, .inl rfl⟩
    · rw [show W.heap[b]? = _ from hbo] at ho; cases ho
      exact ⟨_, _, _, rfl, .inr rfl⟩
  have hbo7 : Boxed w7 bo 82 v := hc07.obj hbo hne
  have hs8 : (w7.setCell ⟨bo, 0, none⟩ (.slice (some ⟨g7, 0, none⟩) (L.length + 1) cap7)).heap.size = w7.heap.size := by simp [World.setCell]
  have hs7 := hc67.size
  refine ⟨keepsOthers_chg hc (fun b o hb ho => by obtain ⟨_, _, _, rfl, _⟩ := hcell b o hb ho; rfl), KpT.of_chg hc (fun b hb => ?_) (fun b cs t fr hb ho hk => ?_), fun w hw => ?_, Boxed.set _ hbo7, ?_⟩
  · rcases hb with hb | rfl
    · exact (hvl b hb).1
    · exact hlo
  · obtain ⟨_, _, _, e, ht⟩ := hcell b _ hb ho
    cases e
    rcases ht with rfl | rfl
    · exact hk.1 rfl
    · exact hk.2 rfl
  · exact ⟨hc.os.trans hw.os, hc.tape.trans hw.tape, hc.output.trans hw.output, Nat.le_trans hw.size hc.size, fun k hk => (hc.block k (by omega) (by
      rintro (e | e)
      · have := (hvl k e).1; omega
      · omega)).trans (hw.block k hk)⟩
  · refine ⟨?_, by simp [h.count], fun i c d hi hd => ?_, List.pairwise_append.2 ⟨h.apart, List.pairwise_singleton _ _, fun c hc y hy k hk hk' => ?_⟩⟩
    · have := hcs.row hown (fun k hk => by cases hk; exact hg7)
      simpa using this
    rotate_left
    · obtain rfl : y = [sv nm, U] := by simpa using hy
      have h1 := (hR k (hU.block hk')).1
      obtain ⟨i, hi, rfl⟩ := List.getElem_of_mem hc
      obtain ⟨U', e, hU'⟩ := h.file i cs[i] (L[i]'(by rw [← h.count]; exact hi)) (by simp) (by simp)
      rw [e] at hk
      have h2 := (hU'.block (k := k) hk).2.1
      omega
    · rcases app_one hi hd h.count with ⟨k1, k2⟩ | ⟨rfl, rfl⟩
      · obtain ⟨U', e, hU'⟩ := h.file i c d k1 k2
        refine ⟨U', e, hU'.kept hc (fun b hb => by rintro (e | e); exact hb.2.2.1 e; exact hb.2.2.2 e) (fun b hb => ⟨hb.1, Nat.lt_of_lt_of_le hb.2.1 hc.size, fun e => ?_, hb.2.2.2⟩)⟩
        obtain rfl : g7 = b := by simpa [Value.ownBlock] using e
        rcases hat with e | e
        · exact hb.2.2.1 e
        · have := hb.2.1; omega
      · refine ⟨U, rfl, (hU.kept hc67 (fun b hb e => by have := (hvl b e).2; have := (hR b hb).1; omega) (fun _ h => h)).kept hcs (fun b hb => by have := (hR b hb).1; show ¬ b = bo; omega) (fun b hb => ⟨by have := (hR b hb).1; omega, by have := (hR b hb).2; omega, fun e => ?_, by have := (hR b hb).1; omega⟩)⟩
        obtain rfl : g7 = b := by simpa [Value.ownBlock] using e
        rcases hat with e | e
        · have := (hvl _ e).2; have := (hR _ hb).1; omega
        · have := (hR _ hb).2; omega

theorem each_any (p : Nat) (w : World) : Calls Tryz.prog 69 #[.pointer (some ⟨p, 0, none⟩)] w fun e w' =>
    e = .returned (.func (.func 110) #[] #[.pointer (some ⟨w.heap.size, 0, none⟩)]) ∧ w' = w.alloc (.cells #[.pointer (some ⟨p, 0, none⟩)] 45) := by
  go_enter Tryz.func69, Tryz.ntmps69
  go_wp2
  go_ret
  exact ⟨rfl, rfl⟩

theorem Tryz.info156 : (Tryz.prog.info? 156).map (fun i => (i.zero, i.size, i.bytes)) = some (some (.agg #[.string ⟨#[]⟩, .slice none 0 0]), 2, 40) := by kernel_rfl
theorem file_one {nm : List UInt8} {a : Option Addr} {n c : Nat} : ∀ u ∈ [Value.string ⟨nm.toArray⟩, .slice a n c], u.oneCell' = true := by
  intro u hu; simp only [List.mem_cons, List.not_mem_nil, or_false] at hu; rcases hu with rfl | rfl <;> rfl
theorem wpAnyIn_inRound {F : Fence} {n : Nat} {P : Program} {md : Region.Mode} {ops : Array Oper} {Q : Exit → Act → World → Prop} {l : Nat} (hro : F.round = none) (hnd : noDefer ops.toList = true) : ∀ {fuel : Nat} {listed : Array Bool} {a : Act} {w : World},
    wpAnyIn F n P md ops Q fuel listed a w → wpAnyIn (F.inRound l) n P md ops Q fuel listed a w
  | 0, _, _, _, h => h
  | fuel + 1, listed, a, w, h => by
    refine ⟨h.1, fun i hi => ?_⟩
    have h1 := h.2 i hi
    have h2 : wpOpIn F n P ops Q i (wpAnyIn (F.inRound l) n P md ops Q fuel (listed.setIfInBounds i true)) a w := wpOpIn_mono (fun a' w' h3 => wpAnyIn_inRound hro hnd h3) h1
    unfold wpOpIn at h2 ⊢
    cases ho : ops[i]? with
    | none => rw [ho] at h2; exact h2
    | some o =>
      rw [ho] at h2
      simp only [] at h2 ⊢
      have hno : ∀ c, o.op ≠ .defer c := by
        intro c hc
        have hmem : o ∈ ops.toList := by rw [← Array.getElem?_toList] at ho; exact List.mem_of_getElem? ho
        have := List.all_eq_true.1 hnd o hmem
        rw [hc] at this; cases this
      split
      · rename_i hw
        rw [if_pos hw] at h2
        refine ⟨h2.1, ?_⟩
        have h3 := h2.2
        rw [hro, Oper.semAt_none] at h3
        rw [Fence.inRound_round, Oper.semAt_some l _ _ hno]
        exact h3
      · rename_i hw
        rw [if_neg hw] at h2
        exact h2

/-- append, not laid open by the walk -/
def appSem (A : Array TypeId) (ty : TypeId) (args : Array Value) : Sem Value := Builtin.append_ A ty args
theorem appSem_eq (A : Array TypeId) (ty : TypeId) (args : Array Value) : Builtin.append_ A ty args = appSem A ty args := rfl
attribute [local go_sem ↓] appSem_eq

set_option maxRecDepth 100000 in
set_option maxHeartbeats 4000000 in
theorem Files_any {w : World} {p : Nat} {s : DSt} {R : Nat → Prop} {mf mn ms : Nat} {fb : List Nat} {vs vw : Value} {ss : List Value} {ws : List (List Value)} {e : TypeId} (h : DiskP w p s R mf mn ms fb vs vw ss ws e) {N : Nat} (hok : s.Ok N) (hN : N < maxList) :
    Calls Tryz.prog 32 #[.pointer (some ⟨p, 0, none⟩)] w fun e w' => ∃ v cs, e = .returned v ∧ FilesAt w' w.heap.size (w.heap.size + 1) v cs s.all ∧ Below w.heap.size w w' := by
  refine (callsIn_wide (n := 6)).1 ?_
  have cE := fun w => (callsIn_wide (n := 5)).2 (each_any p w)
  refine callsIn_of_wp_marks Tryz.func32 rfl trivial ?_ rfl
  simp only [Tryz.ntmps32, List.size_toArray, List.length_cons, List.length_nil, Nat.reduceAdd, Nat.reduceSub, Array.replicate_succ, Array.replicate_zero, List.push_toArray, List.append_toArray, List.nil_append, List.cons_append]
  have hf58 : Fence.wide.fn 69 := trivial
  gi_wp2_with (gi_at_call 69; refine (cE _).mono ?_; rintro e1 W1 ⟨rfl, rfl⟩)
  obtain ⟨w3, hw3⟩ : ∃ w3, ((w.alloc (.cells #[] 156)).alloc (.cells #[.slice (some ⟨w.heap.size, 0, none⟩) 0 0] 82)).alloc (.cells #[.pointer (some ⟨p, 0, none⟩)] 45) = w3 := ⟨_, rfl⟩
  have hb3 : Below w.heap.size w w3 := by rw [← hw3]; exact ((below_alloc w _).alloc (by simp) _).alloc (by simp; omega) _
  have hz3 : w3.heap.size = w.heap.size + 3 := by rw [← hw3]; simp
  have hbo : Boxed w3 (w.heap.size + 1) 82 (.slice (some ⟨w.heap.size, 0, none⟩) 0 0) := by rw [← hw3]; have := (Boxed.new (w.alloc (.cells #[] 156)) 82 (.slice (some ⟨w.heap.size, 0, none⟩) 0 0)).alloc (.cells #[.pointer (some ⟨p, 0, none⟩)] 45); rwa [World.size_alloc] at this
  have hbd : Boxed w3 (w.heap.size + 1 + 1) 45 (.pointer (some ⟨p, 0, none⟩)) := by rw [← hw3]; have := Boxed.new ((w.alloc (.cells #[] 156)).alloc (.cells #[.slice (some ⟨w.heap.size, 0, none⟩) 0 0] 82)) 45 (.pointer (some ⟨p, 0, none⟩)); rwa [World.size_alloc, World.size_alloc] at this
  have hrow0 : w3.heap[w.heap.size]? = some (.cells #[] 156 (0, 0)) := by rw [← hw3]; exact (Below.heap_alloc _ _ _ (by simp; omega)).trans ((Below.heap_alloc _ _ _ (by simp)).trans (World.alloc_heap_new w _))
  rw [hw3]
  clear hw3
  have h3 := h.below hb3
  have hmx : maxList = 4194304 := rfl
  have hF0 : FilesAt w3 w.heap.size (w.heap.size + 1) (.slice (some ⟨w.heap.size, 0, none⟩) 0 0) [] [] :=
    ⟨⟨rfl, .inr ⟨w.heap.size, 0, #[], rfl, Nat.le_refl _, hrow0, Nat.le_refl _, Nat.zero_le _, rfl, rfl⟩⟩, rfl, fun i c d hc => by simp at hc, List.Pairwise.nil⟩
  refine wpIn_rangeFunc_ownF rfl (by omega) (gf := 110) (lb := #[.pointer (some ⟨w.heap.size + 1 + 1, 0, none⟩)]) rfl trivial (enters_of Tryz.func110 (by kernel_rfl) rfl)
    (each1_stops 5 (by omega) h3 hok hN hbd w.heap.size (fun b hb => h.lt hb) (fun t => t ≠ 156 ∧ t ≠ 82) (by decide) (by decide)) (fun h k => h.trans k) (fun W l o o' hl ho hc _ => KpT.putObj W l o o' (by omega) ho hc) (Below.refl _ _) (fun _ => rfl)
    (fun pre W => Below w.heap.size w W ∧ ∃ v cs, Boxed W (w.heap.size + 1) 82 v ∧ FilesAt W w.heap.size (w.heap.size + 1) v cs (pre.map (fun i : Fin s.names.length => (s.names[i].1, s.stands s.names[i].2)))) (fun _ _ _ => False)
    (fun ps W W' row ⟨h1, v, cs, h2, h3⟩ hg hr => ⟨h1.grown hg h1.size (fun k e => by have := (hr k e).1; omega), v, cs, boxed_from h2 hg hr, h3.from hg (fun r e => (hr r e).2)⟩) (fun _ _ _ _ _ h _ _ => h) ⟨hb3, _, _, hbo, hF0⟩
    (fun x => { tmps := #[.pointer (some ⟨p, 0, none⟩), undef, .slice none 0 0, .pointer (some ⟨w.heap.size + 1, 0, none⟩), sv s.names[x].1, .pointer (some ⟨fb.getD s.names[x].2 0, 0, none⟩), .slice (some ⟨w.heap.size, 0, none⟩) 0 0, .pointer (some ⟨p, 0, none⟩), .func (.func 110) #[] #[.pointer (some ⟨w.heap.size + 1 + 1, 0, none⟩)], sv s.names[x].1, .pointer (some ⟨fb.getD s.names[x].2 0, 0, none⟩), undef, undef, undef, undef, undef, undef, undef, undef, undef, undef, undef], defers := [] }) ?assign ?body ?done ?stop
  case assign => intro l x W K hK; simp only [itemD]; gi_wp2; exact hK
  case stop =>
    rintro Dd c pre W _ _ h _
    exact h.elim
  case done =>
    rintro Dd xs W hD rfl ⟨h1, v, cs, h2, h5⟩ hK
    have hall : (List.finRange s.names.length).map (fun i : Fin s.names.length => (s.names[i].1, s.stands s.names[i].2)) = s.all := by
      unfold DSt.all
      apply List.ext_getElem
      · simp
      · intro i k1 k2; simp
    rw [hall] at h5
    clear hall
    obtain ⟨va, vc, rfl⟩ := row_slice h5.row
    have c2 := h2.cell
    have hDd := heap_lt hK
    gi_wp2
    refine ⟨by simp, .inl ⟨_, _, rfl, run_takeDeferred hK, ?_⟩⟩
    have hg : W.grownBy (W.putObj Dd (.deferred none)) (some Dd) := grownBy_putObj' W Dd _
    exact ⟨_, results_tmp (t := 2) rfl _ _ _, _, cs, rfl, h5.from hg (fun r e => by cases e; exact ⟨_, hK, rfl⟩), h1.grown hg h1.size (fun k e => by cases e; omega)⟩
  case body =>
    rintro l pre x W ⟨h1, v, cs, h2, h4⟩ hpl
    obtain ⟨i0, hi, hz0, hz1, hz2⟩ := info_parts Tryz.info156
    have hmn := hok.manyNames
    have hpn : (pre.map (fun i : Fin s.names.length => (s.names[i].1, s.stands s.names[i].2))).length ≤ 4194304 := by rw [List.length_map]; omega
    have hW := h.below h1
    have hxm := hok.names _ (List.getElem_mem x.2)
    have hx63 : s.names[x.1].2 ≤ 4194304 := by have := hok.manyFiles; have := hxm.1; omega
    obtain ⟨b, e', vd, vs', hfb, hfh, hbd', _, _⟩ := hW.file_at (n := s.names[x.1].2) hxm.1 (by omega)
    obtain ⟨da, dc, rfl, hdl, hdn, hdr⟩ := hbd'.row
    have hgd : fb.getD s.names[x].2 0 = b := by rw [List.getD_eq_getElem?_getD]; simp only [Fin.getElem_fin]; rw [hfb]; rfl
    obtain ⟨va, vc, rfl⟩ := row_slice h4.row
    have f0 := cell_of_heap hfh (i := 0) (v := .slice da (s.stands s.names[x.1].2).length dc) (by rfl)
    have hcl := ((callsIn_wide (n := 3)).2 (clone_any da dc (s.stands s.names[x.1].2) W.drew hdn hdr (by have := hok.stands_le s.names[x.1].2; unfold maxFile at this; omega)))
    have c2 := h2.cell
    have z2 := h2.frozen
    have hf32 : (Fence.wide.inRound l).fn 70 := trivial
    rw [hgd]
    have hws := h1.size
    have hnmx : sv s.names[x].1 = .string ⟨(s.names[x.1].1).toArray⟩ := rfl
    obtain ⟨nm, hnm⟩ : ∃ nm, nm = s.names[x.1].1 := ⟨_, rfl⟩
    rw [hnmx, ← hnm]
    obtain ⟨LP, hLP⟩ : ∃ LP, LP = pre.map (fun i : Fin s.names.length => (s.names[i].1, s.stands s.names[i].2)) := ⟨_, rfl⟩
    rw [← hLP] at h2 h4 hpn
    rw [← hLP] at c2
    have hf32' : Fence.wide.fn 70 := trivial
    have HLP := Lib.hid hLP; clear hLP
    have HNM := Lib.hid hnm; clear hnm hnmx
    have HGD := Lib.hid hgd; clear hgd
    have hne := h4.ne_bo h2
    have HMAP := Lib.hid (show (pre ++ [x]).map (fun i : Fin s.names.length => (s.names[i].1, s.stands s.names[i].2)) = LP ++ [(nm, s.stands s.names[x.1].2)] by rw [List.map_append, ← HLP.out, HNM.out]; rfl)
    gi_wp2_with fail
    refine wpIn_region_any (by kernel_rfl) ?_
    refine wpAnyIn_inRound rfl (by kernel_rfl) ?_
    change wpAnyIn _ _ _ _ _ _ _ _ _ (World.drew _)
    refine wpAnyIn_take (i := 1) (v := ?v1) rfl rfl (by kernel_rfl) (by kernel_rfl) (by kernel_rfl) (fun _ _ _ h => h) ⟨Or.inl ⟨by rfl, ?hy1⟩, fun _ => rfl⟩ ?rest1
    case hy1 => (intro w; go_simp; first | done | with_reducible rfl)
    refine wpAnyIn_take (i := 2) (v := ?v2) rfl rfl (by kernel_rfl) (by kernel_rfl) (by kernel_rfl) (fun _ _ _ h => h) ⟨Or.inl ⟨by rfl, ?hy2⟩, fun _ => rfl⟩ ?rest2
    case hy2 => (intro w; go_simp; first | done | with_reducible rfl)
    refine wpAnyIn_take (i := 3) (v := ?v3) rfl rfl (by kernel_rfl) (by kernel_rfl) (by kernel_rfl) (fun _ _ _ h => h) ⟨Or.inl ⟨by rfl, ?hy3⟩, fun _ => rfl⟩ ?rest3
    case hy3 => (intro w; go_simp; first | done | with_reducible rfl)
    refine wpAnyIn_take (i := 4) (v := ?v4) rfl rfl (by kernel_rfl) (by kernel_rfl) (by kernel_rfl) (fun _ _ _ h => h) ⟨Or.inl ⟨by rfl, ?hy4⟩, fun _ => rfl⟩ ?rest4
    case hy4 => (intro w; go_simp; first | done | with_reducible rfl)
    refine wpAnyIn_ready (rs := [0, 5]) (by kernel_rfl) (by simp) ?_
    refine (AllReadyIn.cons rfl (fun K hK => ?_) (AllReadyIn.cons rfl (fun K hK => ?_) AllReadyIn.nil))
    · go_simp
      refine hK _ _ ?_
      clear hK K
      refine wpAnyIn_ready (rs := [5]) (by kernel_rfl) (by simp) ?_
      refine (AllReadyIn.cons rfl (fun K hK => ?_) AllReadyIn.nil)
      go_simp
      refine hK _ _ ?_
      clear hK K
      refine wpAnyIn_ready (rs := [6]) (by kernel_rfl) (by simp) ?_
      refine (AllReadyIn.cons rfl (fun K hK => ?_) AllReadyIn.nil)
      go_simp
      first | refine hcl.mono ?_ | (refine ⟨trivial, ?_⟩; refine hcl.mono ?_)
      rintro _ w5 ⟨U, rfl, hU, hb5⟩
      obtain ⟨ua, uc, rfl, _⟩ := hU.row
      have hc5 : Chg (fun _ => False) W w5 := ((Chg.refl _ W).drew).trans (Chg.of_below hb5) (fun _ h _ => h)
      have hc6 : Chg (fun _ => False) W (w5.alloc (.cells #[.string ⟨nm.toArray⟩, .slice ua (s.stands s.names[x.1].2).length uc] 156)) := hc5.trans (Chg.alloc _ w5 _) (fun _ h _ => h)
      have k5 := hc5.cell c2 (fun h => h)
      have k6 := hc6.cell c2 (fun h => h)
      refine hK _ _ ?_
      clear hK K
      refine wpAnyIn_take (i := 7) (v := ?v5) rfl rfl (by kernel_rfl) (by kernel_rfl) (by kernel_rfl) (fun _ _ _ h => h) ⟨Or.inl ⟨by rfl, ?hy5⟩, fun _ => rfl⟩ ?rest5
      case hy5 => (intro w; go_simp; first | done | with_reducible rfl)
      refine wpAnyIn_ready (rs := [8]) (by kernel_rfl) (by simp) ?_
      refine (AllReadyIn.cons rfl (fun K hK => ?_) AllReadyIn.nil)
      go_simp
      refine hK _ _ ?_
      clear hK K
      refine wpAnyIn_ready (rs := [9]) (by kernel_rfl) (by simp) ?_
      refine (AllReadyIn.cons rfl (fun K hK => ?_) AllReadyIn.nil)
      have hnew := World.news_of_block (World.alloc_heap_new w5 (.cells #[.string ⟨nm.toArray⟩, .slice ua (s.stands s.names[x.1].2).length uc] 156))
      obtain ⟨g7, cap7, w7, hrun, hown7, hg7, hat7, hlt7⟩ := run_append_lies (P := Tryz.prog) (w5.alloc (.cells #[.string ⟨nm.toArray⟩, .slice ua (s.stands s.names[x.1].2).length uc] 156)) 82 82 w.heap.size 156 i0 _ 2 40 Tryz.underlying82 hi hz0 hz1 hz2 rfl (by decide) _ _ _ (hc6.row h4.row (fun _ _ h => h)) ⟨w5.heap.size, 0, none⟩ 1 1 [.string ⟨nm.toArray⟩, .slice ua (s.stands s.names[x.1].2).length uc] rfl hnew file_one (by decide) (by unfold maxLen; omega) (by omega) (Nat.le_trans hws hc6.size) (w5.heap.size + 1) (World.size_alloc _ _)
      rw [appSem_eq] at hrun
      go_simp
      refine hK _ _ ?_
      clear hK K
      refine wpAnyIn_ready (rs := [10]) (by kernel_rfl) (by simp) ?_
      refine (AllReadyIn.cons rfl (fun K hK => ?_) AllReadyIn.nil)
      have hb7 : Boxed w7 (w.heap.size + 1) 82 (.slice va LP.length vc) := (Chg.of_grown (O := fun b => (Value.slice va LP.length vc).ownBlock = some b) hg7 (fun k e _ => e)).obj (hc6.obj h2 (fun h => h)) hne
      have c7 := hb7.cell
      have z7 := hb7.frozen
      go_simp
      refine hK _ _ ?_
      clear hK K
      refine wpAnyIn_done (by kernel_rfl) ?_ _
      obtain ⟨q1, q2, q3, q4, q5⟩ := h4.push h2 (Nat.le_succ _) hws hc5 (fun b hb => hb) hU hown7 hg7 hat7
      clear hrun hown7 hg7 hc6 hc5 hb5 hU
      gi_wp2
      exact ⟨q1, q2, q3 _ h1, _, q4, _, by rw [← HMAP.out] at q5; exact q5⟩
    · go_simp
      refine hK _ _ ?_
      clear hK K
      refine wpAnyIn_ready (rs := [0, 6]) (by kernel_rfl) (by simp) ?_
      refine (AllReadyIn.cons rfl (fun K hK => ?_) (AllReadyIn.cons rfl (fun K hK => ?_) AllReadyIn.nil))
      · go_simp
        refine hK _ _ ?_
        clear hK K
        refine wpAnyIn_ready (rs := [6]) (by kernel_rfl) (by simp) ?_
        refine (AllReadyIn.cons rfl (fun K hK => ?_) AllReadyIn.nil)
        go_simp
        first | refine hcl.mono ?_ | (refine ⟨trivial, ?_⟩; refine hcl.mono ?_)
        rintro _ w5 ⟨U, rfl, hU, hb5⟩
        obtain ⟨ua, uc, rfl, _⟩ := hU.row
        have hc5 : Chg (fun _ => False) W w5 := ((Chg.refl _ W).drew).trans (Chg.of_below hb5) (fun _ h _ => h)
        have hc6 : Chg (fun _ => False) W (w5.alloc (.cells #[.string ⟨nm.toArray⟩, .slice ua (s.stands s.names[x.1].2).length uc] 156)) := hc5.trans (Chg.alloc _ w5 _) (fun _ h _ => h)
        have k5 := hc5.cell c2 (fun h => h)
        have k6 := hc6.cell c2 (fun h => h)
        refine hK _ _ ?_
        clear hK K
        refine wpAnyIn_take (i := 7) (v := ?v6) rfl rfl (by kernel_rfl) (by kernel_rfl) (by kernel_rfl) (fun _ _ _ h => h) ⟨Or.inl ⟨by rfl, ?hy6⟩, fun _ => rfl⟩ ?rest6
        case hy6 => (intro w; go_simp; first | done | with_reducible rfl)
        refine wpAnyIn_ready (rs := [8]) (by kernel_rfl) (by simp) ?_
        refine (AllReadyIn.cons rfl (fun K hK => ?_) AllReadyIn.nil)
        go_simp
        refine hK _ _ ?_
        clear hK K
        refine wpAnyIn_ready (rs := [9]) (by kernel_rfl) (by simp) ?_
        refine (AllReadyIn.cons rfl (fun K hK => ?_) AllReadyIn.nil)
        have hnew := World.news_of_block (World.alloc_heap_new w5 (.cells #[.string ⟨nm.toArray⟩, .slice ua (s.stands s.names[x.1].2).length uc] 156))
        obtain ⟨g7, cap7, w7, hrun, hown7, hg7, hat7, hlt7⟩ := run_append_lies (P := Tryz.prog) (w5.alloc (.cells #[.string ⟨nm.toArray⟩, .slice ua (s.stands s.names[x.1].2).length uc] 156)) 82 82 w.heap.size 156 i0 _ 2 40 Tryz.underlying82 hi hz0 hz1 hz2 rfl (by decide) _ _ _ (hc6.row h4.row (fun _ _ h => h)) ⟨w5.heap.size, 0, none⟩ 1 1 [.string ⟨nm.toArray⟩, .slice ua (s.stands s.names[x.1].2).length uc] rfl hnew file_one (by decide) (by unfold maxLen; omega) (by omega) (Nat.le_trans hws hc6.size) (w5.heap.size + 1) (World.size_alloc _ _)
        rw [appSem_eq] at hrun
        go_simp
        refine hK _ _ ?_
        clear hK K
        refine wpAnyIn_ready (rs := [10]) (by kernel_rfl) (by simp) ?_
        refine (AllReadyIn.cons rfl (fun K hK => ?_) AllReadyIn.nil)
        have hb7 : Boxed w7 (w.heap.size + 1) 82 (.slice va LP.length vc) := (Chg.of_grown (O := fun b => (Value.slice va LP.length vc).ownBlock = some b) hg7 (fun k e _ => e)).obj (hc6.obj h2 (fun h => h)) hne
        have c7 := hb7.cell
        have z7 := hb7.frozen
        go_simp
        refine hK _ _ ?_
        clear hK K
        refine wpAnyIn_done (by kernel_rfl) ?_ _
        obtain ⟨q1, q2, q3, q4, q5⟩ := h4.push h2 (Nat.le_succ _) hws hc5 (fun b hb => hb) hU hown7 hg7 hat7
        clear hrun hown7 hg7 hc6 hc5 hb5 hU
        gi_wp2
        exact ⟨q1, q2, q3 _ h1, _, q4, _, by rw [← HMAP.out] at q5; exact q5⟩
      · go_simp
        first | refine hcl.mono ?_ | (refine ⟨trivial, ?_⟩; refine hcl.mono ?_)
        rintro _ w5 ⟨U, rfl, hU, hb5⟩
        obtain ⟨ua, uc, rfl, _⟩ := hU.row
        have hc5 : Chg (fun _ => False) W w5 := ((Chg.refl _ W).drew).trans (Chg.of_below hb5) (fun _ h _ => h)
        have hc6 : Chg (fun _ => False) W (w5.alloc (.cells #[.string ⟨nm.toArray⟩, .slice ua (s.stands s.names[x.1].2).length uc] 156)) := hc5.trans (Chg.alloc _ w5 _) (fun _ h _ => h)
        have k5 := hc5.cell c2 (fun h => h)
        have k6 := hc6.cell c2 (fun h => h)
        refine hK _ _ ?_
        clear hK K
        refine wpAnyIn_take (i := 7) (v := ?v7) rfl rfl (by kernel_rfl) (by kernel_rfl) (by kernel_rfl) (fun _ _ _ h => h) ⟨Or.inl ⟨by rfl, ?hy7⟩, fun _ => rfl⟩ ?rest7
        case hy7 => (intro w; go_simp; first | done | with_reducible rfl)
        refine wpAnyIn_ready (rs := [0, 8]) (by kernel_rfl) (by simp) ?_
        refine (AllReadyIn.cons rfl (fun K hK => ?_) (AllReadyIn.cons rfl (fun K hK => ?_) AllReadyIn.nil))
        · go_simp
          refine hK _ _ ?_
          clear hK K
          refine wpAnyIn_ready (rs := [8]) (by kernel_rfl) (by simp) ?_
          refine (AllReadyIn.cons rfl (fun K hK => ?_) AllReadyIn.nil)
          go_simp
          refine hK _ _ ?_
          clear hK K
          refine wpAnyIn_ready (rs := [9]) (by kernel_rfl) (by simp) ?_
          refine (AllReadyIn.cons rfl (fun K hK => ?_) AllReadyIn.nil)
          have hnew := World.news_of_block (World.alloc_heap_new w5 (.cells #[.string ⟨nm.toArray⟩, .slice ua (s.stands s.names[x.1].2).length uc] 156))
          obtain ⟨g7, cap7, w7, hrun, hown7, hg7, hat7, hlt7⟩ := run_append_lies (P := Tryz.prog) (w5.alloc (.cells #[.string ⟨nm.toArray⟩, .slice ua (s.stands s.names[x.1].2).length uc] 156)) 82 82 w.heap.size 156 i0 _ 2 40 Tryz.underlying82 hi hz0 hz1 hz2 rfl (by decide) _ _ _ (hc6.row h4.row (fun _ _ h => h)) ⟨w5.heap.size, 0, none⟩ 1 1 [.string ⟨nm.toArray⟩, .slice ua (s.stands s.names[x.1].2).length uc] rfl hnew file_one (by decide) (by unfold maxLen; omega) (by omega) (Nat.le_trans hws hc6.size) (w5.heap.size + 1) (World.size_alloc _ _)
          rw [appSem_eq] at hrun
          go_simp
          refine hK _ _ ?_
          clear hK K
          refine wpAnyIn_ready (rs := [10]) (by kernel_rfl) (by simp) ?_
          refine (AllReadyIn.cons rfl (fun K hK => ?_) AllReadyIn.nil)
          have hb7 : Boxed w7 (w.heap.size + 1) 82 (.slice va LP.length vc) := (Chg.of_grown (O := fun b => (Value.slice va LP.length vc).ownBlock = some b) hg7 (fun k e _ => e)).obj (hc6.obj h2 (fun h => h)) hne
          have c7 := hb7.cell
          have z7 := hb7.frozen
          go_simp
          refine hK _ _ ?_
          clear hK K
          refine wpAnyIn_done (by kernel_rfl) ?_ _
          obtain ⟨q1, q2, q3, q4, q5⟩ := h4.push h2 (Nat.le_succ _) hws hc5 (fun b hb => hb) hU hown7 hg7 hat7
          clear hrun hown7 hg7 hc6 hc5 hb5 hU
          gi_wp2
          exact ⟨q1, q2, q3 _ h1, _, q4, _, by rw [← HMAP.out] at q5; exact q5⟩
        · go_simp
          refine hK _ _ ?_
          clear hK K
          refine wpAnyIn_ready (rs := [0]) (by kernel_rfl) (by simp) ?_
          refine (AllReadyIn.cons rfl (fun K hK => ?_) AllReadyIn.nil)
          go_simp
          refine hK _ _ ?_
          clear hK K
          refine wpAnyIn_ready (rs := [9]) (by kernel_rfl) (by simp) ?_
          refine (AllReadyIn.cons rfl (fun K hK => ?_) AllReadyIn.nil)
          have hnew := World.news_of_block (World.alloc_heap_new w5 (.cells #[.string ⟨nm.toArray⟩, .slice ua (s.stands s.names[x.1].2).length uc] 156))
          obtain ⟨g7, cap7, w7, hrun, hown7, hg7, hat7, hlt7⟩ := run_append_lies (P := Tryz.prog) (w5.alloc (.cells #[.string ⟨nm.toArray⟩, .slice ua (s.stands s.names[x.1].2).length uc] 156)) 82 82 w.heap.size 156 i0 _ 2 40 Tryz.underlying82 hi hz0 hz1 hz2 rfl (by decide) _ _ _ (hc6.row h4.row (fun _ _ h => h)) ⟨w5.heap.size, 0, none⟩ 1 1 [.string ⟨nm.toArray⟩, .slice ua (s.stands s.names[x.1].2).length uc] rfl hnew file_one (by decide) (by unfold maxLen; omega) (by omega) (Nat.le_trans hws hc6.size) (w5.heap.size + 1) (World.size_alloc _ _)
          rw [appSem_eq] at hrun
          go_simp
          refine hK _ _ ?_
          clear hK K
          refine wpAnyIn_ready (rs := [10]) (by kernel_rfl) (by simp) ?_
          refine (AllReadyIn.cons rfl (fun K hK => ?_) AllReadyIn.nil)
          have hb7 : Boxed w7 (w.heap.size + 1) 82 (.slice va LP.length vc) := (Chg.of_grown (O := fun b => (Value.slice va LP.length vc).ownBlock = some b) hg7 (fun k e _ => e)).obj (hc6.obj h2 (fun h => h)) hne
          have c7 := hb7.cell
          have z7 := hb7.frozen
          go_simp
          refine hK _ _ ?_
          clear hK K
          refine wpAnyIn_done (by kernel_rfl) ?_ _
          obtain ⟨q1, q2, q3, q4, q5⟩ := h4.push h2 (Nat.le_succ _) hws hc5 (fun b hb => hb) hU hown7 hg7 hat7
          clear hrun hown7 hg7 hc6 hc5 hb5 hU
          gi_wp2
          exact ⟨q1, q2, q3 _ h1, _, q4, _, by rw [← HMAP.out] at q5; exact q5⟩

end Go.Proofs.YtlmdpcaikhdenaaGreat
/- Disk: the law's and the document's small functions: num, Same, SameTexts, SameFiles. -/
namespace Go.Proofs.YtlmdpcaikhdenaaGreat
open Go.RowKit Go.Maps

/-- string(b), whatever the address of an empty one -/
theorem run_conv {P : Program} {w : World} (src dst e : TypeId) (hs : P.underlying src = some (.slice e)) (he : P.underlying e = some (.int .u8)) (hd : P.underlying dst = some .string)
    {a : Option Addr} {c : Nat} {l : List UInt8} (h : RowAt w a (l.map bv)) : (convert src dst (.slice a l.length c)).run P w = Result.ok (.string ⟨l.toArray⟩) w := by
  by_cases hl : l = []
  · subst hl
    rw [List.length_nil, run_convert_bytes_string w src dst e _ 0 c hs he hd]
    cases a <;> simp [Conv.bytesToString, loadCells]
    all_goals rfl
  · obtain ⟨b, off, rfl, hc⟩ := h (by simpa using hl)
    have hx := run_convert_bytes_arg (P := P) w src e hs he b off l.length c (l.map fun y => (y.toNat : Int)) (by simp) (fun i hi => by
      have := hc i (bv l[i]) (by simp [hi])
      rw [this]
      simp [bv, List.getD_eq_getElem?_getD, hi]) dst hd
    rw [hx]
    congr 2
    apply ByteArray.ext
    apply Array.toList_inj.1
    simp only [strOfNums, List.map_map]
    have : (fun n : Int => UInt8.ofNat n.toNat) ∘ (fun y : UInt8 => (y.toNat : Int)) = id := by funext y; simp
    rw [this, List.map_id]

theorem below_drewN {n : Nat} {w w' : World} (h : Below n w w') (q : Nat) : Below n w (w'.drewN q) := ⟨h.os, h.tape, h.output, h.size, h.block⟩
theorem list_ne_at {α : Type} [BEq α] [LawfulBEq α] {l m : List α} {k : Nat} {x y : α} (hx : l[k]? = some x) (hy : m[k]? = some y) (h : x ≠ y) : (l == m) = false := by
  rw [Bool.eq_false_iff]
  intro e
  rw [beq_iff_eq] at e
  subst e
  rw [hx] at hy
  exact h (Option.some.inj hy)
theorem list_eq_at {α : Type} [BEq α] [LawfulBEq α] {l m : List α} (hl : l.length = m.length) (h : ∀ j, j < l.length → l[j]? = m[j]?) : (l == m) = true := by
  rw [beq_iff_eq]
  refine List.ext_getElem? fun j => ?_
  by_cases hj : j < l.length
  · exact h j hj
  · rw [List.getElem?_eq_none (by omega), List.getElem?_eq_none (by omega)]
theorem list_ne_len {α : Type} [BEq α] [LawfulBEq α] {l m : List α} (hl : l.length ≠ m.length) : (l == m) = false := by
  rw [Bool.eq_false_iff]
  intro e
  rw [beq_iff_eq] at e
  exact hl (by rw [e])


end Go.Proofs.YtlmdpcaikhdenaaGreat
/- The reference of entries: number, list, One. (printed by gen/rnum.py) -/
namespace Go.Proofs.YtlmdpcaikhdenaaGreat
open Go.RowKit Go.Maps

theorem ownsRow_from {w : World} {base lo size n : Nat} {e : TypeId} {v : Value} {xs : List Value} (h : w.ownsRow base e size v n xs) (hlo : ∀ g, v.ownBlock = some g → lo ≤ g) : w.ownsRow lo e size v n xs := by
  refine ⟨h.1, ?_⟩
  rcases h.2 with ⟨e1, e2⟩ | ⟨g, cap, cur, rfl, h1, h2⟩
  · exact .inl ⟨e1, e2⟩
  · exact .inr ⟨g, cap, cur, rfl, hlo g rfl, h2⟩

end Go.Proofs.YtlmdpcaikhdenaaGreat
/- The reference of entries: Take. -/
namespace Go.Proofs.YtlmdpcaikhdenaaGreat
open Go.RowKit Go.Maps


end Go.Proofs.YtlmdpcaikhdenaaGreat
/- The reference of records: Read. (printed by gen/rread7.py) -/
namespace Go.Proofs.YtlmdpcaikhdenaaGreat
open Go.RowKit Go.Maps

theorem BytesIn.own {w : World} {R : Nat → Prop} {v : Value} {l : List UInt8} (h : BytesIn w R v l) : BytesIn w (fun x => v.ownBlock = some x) v l := by
  obtain ⟨a, c, rfl, h1, h2, h3, h4, h5, h6⟩ := h
  exact ⟨a, c, rfl, h1, h2, h3, (fun x hx => by subst hx; rfl), h5, h6⟩

end Go.Proofs.YtlmdpcaikhdenaaGreat
/- The reference of segments: Decode. (printed by gen/rdec17.py) -/
namespace Go.Proofs.YtlmdpcaikhdenaaGreat
open Go.RowKit Go.Maps


end Go.Proofs.YtlmdpcaikhdenaaGreat
/- Disk: the document's SameFiles. -/
namespace Go.Proofs.YtlmdpcaikhdenaaGreat
open Go.RowKit Go.Maps

/-- files as they are read: the cells of a slice of files, from its address on -/
def FilesRd (w : World) (a : Option Addr) (L : List (List UInt8 × List UInt8)) : Prop := L ≠ [] → ∃ b off, a = some ⟨b, off, none⟩ ∧ ∀ (i : Nat) d, L[i]? = some d →
  w.cell? ⟨b, off + i * 2, none⟩ = some (sv d.1) ∧ ∃ ua uc, w.cell? ⟨b, off + i * 2 + 1, none⟩ = some (.slice ua d.2.length uc) ∧ RowAt w ua (d.2.map bv)
theorem FilesRd.below {w w' : World} {a : Option Addr} {L : List (List UInt8 × List UInt8)} (h : FilesRd w a L) (hb : Below w.heap.size w w') : FilesRd w' a L := fun hL => by
  obtain ⟨b, off, e, hc⟩ := h hL
  refine ⟨b, off, e, fun i d hd => ?_⟩
  obtain ⟨h1, ua, uc, h2, h3⟩ := hc i d hd
  exact ⟨(hb.cell (p := ⟨b, off + i * 2, none⟩) (cell_lt h1)).trans h1, ua, uc, (hb.cell (p := ⟨b, off + i * 2 + 1, none⟩) (cell_lt h2)).trans h2, h3.below hb⟩
theorem FilesRd.nil (w : World) (a : Option Addr) : FilesRd w a [] := fun h => absurd rfl h


end Go.Proofs.YtlmdpcaikhdenaaGreat
