/- Texts of this claim, one behind the other: Zs. -/
import Derived.Test.YtljobojdcnhecaaFm02
import Derived.Deep.RegionHeld
import Derived.Lib.Hide
import Derived.OwnWalkIn
import Derived.StillTail
import Derived.RangeFuncCalls
import Derived.Deep.Quiet
import Derived.Lib.QuietBelow
set_option linter.unusedSimpArgs false
set_option linter.unusedVariables false
namespace Go.Proofs.Ytljobojdcnhecaa
/- A region that draws its order, walked in one order (a schedule) that a program prints and the kernel checks: what only reads (under S) is light, and may come up whenever it is ready; what calls, stores or makes memory is heavy, and comes up where nothing else is ready. -/
open Go.RowKit

section
variable {P : Program} {ops : Array Oper} {Q : Exit → Act → World → Prop} {md : Region.Mode} {S : World → Prop}
/-- a normal end only -/
def nrm (Q : Exit → Act → World → Prop) : Exit → Act → World → Prop
  | .normal, a, w => Q .normal a w
  | _, _, _ => False
theorem nrm_of {e : Exit} {a : Act} {w : World} (h : nrm Q e a w) : Q e a w := by cases e <;> first | exact h | exact h.elim
theorem nrm_mk {a : Act} {w : World} (h : Q .normal a w) : nrm Q .normal a w := h
/-- the schedule can be: number by number; behind it the operations from number n on, one by one -/
def schedB (md : Region.Mode) (ops : Array Oper) (n : Nat) : List (Nat × Bool) → Array Bool → Bool
  | [], l => Region.seqB md ops (ops.size - n) n l
  | (i, h) :: r, l => decide (i < n) && (if h then decide (Region.ready md ops l = [i]) else (Region.ready md ops l).contains i && Region.free md ops l i) && schedB md ops n r (l.setIfInBounds i true)
/-- from number n on each awaits all ahead of n -/
def endB (md : Region.Mode) (ops : Array Oper) (n : Nat) : Bool := (List.range ops.size).all fun t => decide (t < n) || (List.range n).all fun i => Region.waitsFor md ops t i
def planB (md : Region.Mode) (ops : Array Oper) (n : Nat) (σ : List (Nat × Bool)) : Bool :=
  Region.noSelect ops && decide (σ.length = n) && decide (n ≤ ops.size) && endB md ops n && schedB md ops n σ (Array.replicate ops.size false)
/-- the walk along a schedule -/
def wpS (P : Program) (ops : Array Oper) (S : World → Prop) (Q : Exit → Act → World → Prop) (tl : List Oper) : List (Nat × Bool) → Act → World → Prop
  | [], a, w => wpList P ops Q tl a w
  | (i, h) :: r, a, w => ∃ o, ops[i]? = some o ∧ if Region.wanted o (yielded ops a.tmps) = true then
      (if h = true then o.wp P a w (fun a' w' => S w' ∧ wpS P ops S Q tl r a' w') Q else ∃ v, (∀ w', S w' → (execOp a.eval o).run P w' = .ok (.value v) w') ∧ wpS P ops S Q tl r (a.put o.dst v) w)
    else wpS P ops S Q tl r (a.put o.dst undef) w
/-- whatever comes up, f times; then L -/
def wpAnyT (P : Program) (md : Region.Mode) (ops : Array Oper) (Q : Exit → Act → World → Prop) (S : World → Prop) (L : Array Bool → Act → World → Prop) : Nat → Array Bool → Act → World → Prop
  | 0, l, a, w => L l a w
  | f + 1, l, a, w => Region.ready md ops l ≠ [] ∧ ∀ i ∈ Region.ready md ops l, wpOp P ops Q i (fun a' w' => S w' ∧ wpAnyT P md ops Q S L f (l.setIfInBounds i true) a' w') a w
theorem wpAny_of_T {L : Array Bool → Act → World → Prop} {g : Nat} (hL : ∀ l a w, L l a w → wpAny P md ops Q g l a w) : ∀ (f : Nat) (l : Array Bool) (a : Act) (w : World), wpAnyT P md ops Q S L f l a w → wpAny P md ops Q (f + g) l a w
  | 0, l, a, w, h => by rw [Nat.zero_add]; exact hL l a w h
  | f + 1, l, a, w, h => by
    rw [show f + 1 + g = (f + g) + 1 by omega]
    exact ⟨fun h0 => absurd h0 h.1, fun i hi => wpOp_mono (fun a' w' h' => wpAny_of_T hL f _ a' w' h'.2) (h.2 i hi)⟩
theorem end_waits {n t i : Nat} {l : Array Bool} (hE : endB md ops n = true) (ht : t ∈ Region.ready md ops l) (hn : n ≤ t) (hi : i < n) : l.getD i false = true := by
  obtain ⟨_, ot, hot, hall⟩ := mem_ready.1 ht
  have htl : t < ops.size := (Array.getElem?_eq_some_iff.1 hot).1
  have h1 := List.all_eq_true.1 hE t (List.mem_range.2 htl)
  simp only [Bool.or_eq_true, decide_eq_true_eq] at h1
  rcases h1 with h1 | h1
  · omega
  obtain ⟨o', ho', e, he, hb, hon⟩ := Region.waitsFor_spec (List.all_eq_true.1 h1 i (List.mem_range.2 hi))
  obtain rfl : o' = ot := Option.some.inj (ho'.symm.trans hot)
  rw [← hon]; exact hall e he hb
/-- a light one may come up first -/
theorem wpAnyT_first {L : Array Bool → Act → World → Prop} {n i : Nat} {oi : Oper} {v : Value} (hi : ops[i]? = some oi) (hin : i < n) (hE : endB md ops n = true) (hd : ∀ l a w, L l a w → ∀ j ∈ Region.ready md ops l, n ≤ j)
    (hsel : ∀ (j : Nat) (o : Oper) cs b, ops[j]? = some o → o.op ≠ .select cs b) (hQ : ∀ c a w, Q (.panic c) (a.put oi.dst v) w → Q (.panic c) a w) : ∀ (f : Nat) (l : Array Bool) (a : Act) (w : World),
    (∀ j oj, ops[j]? = some oj → j ≠ i → l.getD j true = false → (∀ e ∈ oj.after, Region.binds md e = true → e.on ≠ i) → oi.apart ops oj = true) →
    i ∈ Region.ready md ops l → YieldsIf P ops S oi v a → S w → wpAnyT P md ops Q S L f (l.setIfInBounds i true) (a.put oi.dst v) w → wpAnyT P md ops Q S L (f + 1) l a w := by
  intro f
  induction f with
  | zero =>
    intro l a w _ hr hy hS H
    refine ⟨List.ne_nil_of_mem hr, fun j hj => ?_⟩
    by_cases hji : j = i
    · subst hji; exact hy.wpOp hi hS ⟨hS, H⟩
    · have h1 := hd _ _ _ H j (ready_mono hj hji)
      have h2 := end_waits hE hj h1 hin
      rw [getD_both (mem_ready.1 hr).1] at h2
      cases h2
  | succ f ih =>
    intro l a w hfree hr hy hS H
    refine ⟨List.ne_nil_of_mem hr, fun j hj => ?_⟩
    by_cases hji : j = i
    · subst hji; exact hy.wpOp hi hS ⟨hS, H⟩
    · have h1 := H.2 j (ready_mono hj hji)
      obtain ⟨hjun, oj, hoj, hall⟩ := mem_ready.1 hj
      have hnot : ∀ e ∈ oj.after, Region.binds md e = true → e.on ≠ i := fun e he hb heq => by
        have h1 := hall e he hb
        rw [heq, getD_both (mem_ready.1 hr).1] at h1
        cases h1
      have h2 := wpOp_putIf hoj (hfree j oj hoj hji hjun hnot) (fun cs b => hsel i oi cs b hi) (fun cs b => hsel j oj cs b hoj) hQ hy h1
      refine wpOp_mono (fun a' w' h3 => ⟨h3.2.1, ih (l.setIfInBounds j true) a' w' (fun k ok hk hki hun hno => hfree k ok hk hki ?_ hno) (ready_mono hr (Ne.symm hji)) h3.1 h3.2.1 ?_⟩) h2
      · by_cases hjk : j = k
        · subst hjk; exact hjun
        · rw [getD_set_ne true hjk] at hun; exact hun
      · rw [Array.setIfInBounds_comm _ _ hji]; exact h3.2.2

theorem wpAnyT_of_S {n : Nat} (hs : Region.noSelect ops = true) (hE : endB md ops n = true) {tl : List Oper} : ∀ (σ : List (Nat × Bool)) (l : Array Bool) (a : Act) (w : World),
    schedB md ops n σ l = true → S w → wpS P ops S (nrm Q) tl σ a w → wpAnyT P md ops (nrm Q) S (fun l a w => Region.seqB md ops (ops.size - n) n l = true ∧ wpList P ops (nrm Q) tl a w) σ.length l a w
  | [], l, a, w, hB, _, h => ⟨hB, h⟩
  | (i, hv) :: r, l, a, w, hB, hS, h => by
    obtain ⟨o, ho, h⟩ := h
    simp only [schedB, Bool.and_eq_true, decide_eq_true_eq] at hB
    obtain ⟨⟨hin, hB⟩, hB'⟩ := hB
    cases hv with
    | true =>
      simp only [if_true, decide_eq_true_eq] at hB
      refine ⟨fun h0 => (by rw [hB] at h0; cases h0), fun j hj => ?_⟩
      rw [hB] at hj
      obtain rfl : j = i := by simpa using hj
      unfold wpOp
      simp only [ho]
      split
      · rename_i hw
        simp only [hw, if_true] at h
        exact .inl (Oper.wp_mono (fun a' w' h' => ⟨h'.1, wpAnyT_of_S hs hE r _ a' w' hB' h'.1 h'.2⟩) h)
      · rename_i hw
        simp only [hw] at h
        exact ⟨hS, wpAnyT_of_S hs hE r _ _ w hB' hS h⟩
    | false =>
      simp only [Bool.false_eq_true, if_false, Bool.and_eq_true] at hB h
      have hd : ∀ (l : Array Bool) (a : Act) (w : World), (Region.seqB md ops (ops.size - n) n l = true ∧ wpList P ops (nrm Q) tl a w) → ∀ j ∈ Region.ready md ops l, n ≤ j := fun l a w h => seqB_ready h.1
      have hr : i ∈ Region.ready md ops l := by simpa using hB.1
      by_cases hw : Region.wanted o (yielded ops a.tmps) = true
      · simp only [hw, if_true] at h
        obtain ⟨v, hv, h⟩ := h
        exact wpAnyT_first ho hin hE hd (Region.noSelect_spec hs) (fun _ _ _ h => h.elim) _ l a w (Region.free_spec ho hB.2) hr (.inl ⟨hw, hv⟩) hS (wpAnyT_of_S hs hE r _ _ w hB' hS h)
      · simp only [hw] at h
        exact wpAnyT_first ho hin hE hd (Region.noSelect_spec hs) (fun _ _ _ h => h.elim) _ l a w (Region.free_spec ho hB.2) hr (.inr ⟨by simpa using hw, rfl⟩) hS (wpAnyT_of_S hs hE r _ _ w hB' hS h)

theorem wpAny_of_S {n : Nat} {a : Act} {w : World} (σ : List (Nat × Bool)) (hB : planB md ops n σ = true) (hS : S w) (h : wpS P ops S (nrm Q) (ops.toList.drop n) σ a w) : wpAny P md ops (nrm Q) ops.size (Array.replicate ops.size false) a w := by
  simp only [planB, Bool.and_eq_true, decide_eq_true_eq] at hB
  obtain ⟨⟨⟨⟨hs, hl⟩, hn⟩, hE⟩, hB⟩ := hB
  have := wpAny_of_T (g := ops.size - n) (fun l a' w' hL => by
    have := wpAny_of_seq (md := md) (Q' := nrm Q) (ops.toList.drop n) n l a' w' (fun j => by simp [List.getElem?_drop]) (by rw [List.length_drop, Array.length_toList]; exact hL.1) hL.2
    rwa [List.length_drop, Array.length_toList] at this) _ _ _ _ (wpAnyT_of_S hs hE σ _ a w hB hS h)
  rwa [hl, show n + (ops.size - n) = ops.size by omega] at this

theorem wp_region_S {id : Nat} {a : Act} {w : World} (n : Nat) (S : World → Prop) (σ : List (Nat × Bool)) (hm : P.follows .mixedOrders = true) (hB : planB .any ops n σ = true)
    (hS : S w.drew) (h : S w.drew → wpS P ops S (nrm Q) (ops.toList.drop n) σ a w.drew) : (Code.region id ops true).wp P Q a w :=
  wp_mono (wp_region_any hm (wpAny_of_S σ hB hS (h hS))) fun _ _ _ h => nrm_of h
theorem S_nil {tl : List Oper} {a : Act} {w : World} (h : wpList P ops Q tl a w) : wpS P ops S Q tl [] a w := h
/-- a light one: v is found by walking, in whatever world under S -/
theorem S_lt {tl : List Oper} {i : Nat} {r : List (Nat × Bool)} {a : Act} {w : World} {o : Oper} (v : Value) (hi : ops[i]? = some o) (hw : Region.wanted o (yielded ops a.tmps) = true) (hy : ∀ w', S w' → (execOp a.eval o).run P w' = .ok (.value v) w') (h : wpS P ops S Q tl r (a.put o.dst v) w) : wpS P ops S Q tl ((i, false) :: r) a w :=
  ⟨o, hi, by rw [if_pos hw, if_neg Bool.false_ne_true]; exact ⟨v, hy, h⟩⟩
/-- the same, the guard to be reckoned by the walk -/
theorem S_st {tl : List Oper} {i : Nat} {r : List (Nat × Bool)} {a : Act} {w : World} {o : Oper} (hi : ops[i]? = some o) (h : ∀ K : Act → Prop, (∀ a, wpS P ops S Q tl r a w → K a) → if Region.wanted o (yielded ops a.tmps) = true then ∃ v, (∀ w', S w' → (execOp a.eval o).run P w' = .ok (.value v) w') ∧ K (a.put o.dst v) else K (a.put o.dst undef)) : wpS P ops S Q tl ((i, false) :: r) a w :=
  ⟨o, hi, h _ (fun _ h => h)⟩
/-- a heavy one -/
theorem S_hv {tl : List Oper} {i : Nat} {r : List (Nat × Bool)} {a : Act} {w : World} {o : Oper} (hS : S w) (hi : ops[i]? = some o) (h : ∀ K : Act → World → Prop, Hid (∀ a w, S w → (S w → wpS P ops S Q tl r a w) → K a w) → if Region.wanted o (yielded ops a.tmps) = true then o.wp P a w K Q else K (a.put o.dst undef) w) : wpS P ops S Q tl ((i, true) :: r) a w := by
  refine ⟨o, hi, ?_⟩
  have := h (fun a w => S w ∧ wpS P ops S Q tl r a w) (Lib.hid (fun _ _ hS h => ⟨hS, h hS⟩))
  split
  · rename_i hw; rw [if_pos hw] at this; rw [if_pos rfl]; exact this
  · rename_i hw; rw [if_neg hw] at this; exact this.2

/-! In a round of a loop over an iterator: what holds of an operation, of a region outside of rounds, holds there, too. -/
/-- no operation of the list is a defer statement -/
def noDeferS (l : List Oper) : Bool := l.all fun o => match o.op with | .defer _ => false | _ => true
theorem wpIn_of_wpS {o : Oper} {a : Act} {w : World} {K : Act → World → Prop} {l n : Nat} (hsem : Oper.semAt (some l) a.eval o = execOp a.eval o) (h : o.wp P a w K Q) : o.wpIn (Fence.wide.inRound l) n P a w K Q := by
  unfold Oper.wp at h
  refine ⟨fun _ _ => trivial, ?_⟩
  show o.uponIn _ n P a K Q ((Oper.semAt (some l) a.eval o).run P w)
  rw [hsem]
  generalize (execOp a.eval o).run P w = r at *
  cases r with
  | ok x w' =>
    cases x <;> simp only [Oper.upon] at h <;> simp only [Oper.uponIn]
    case enter f args =>
      refine ⟨fun h => absurd h (by simp [Fence.wide]), CallsIn.inRound l (callsIn_wide.2 (h.mono fun e w'' he => ?_))⟩
      cases e <;> exact he
    case row row args => exact ⟨fun h => absurd h (by simp [Fence.wide]), fun c cs _ => let ⟨v, w', r, s⟩ := h c cs; ⟨v, w', r, stepsIn_wide.2 s⟩⟩
    all_goals exact h
  | halt x w' => cases x <;> simp only [Oper.upon] at h <;> simp only [Oper.uponIn]; exact h
theorem wpAnyIn_of_wpAny {l n : Nat} (hlo : ¬ LetsOut Q) (hnd : ∀ (i : Nat) (o : Oper), ops[i]? = some o → ∀ c, o.op ≠ .defer c) : ∀ (fuel : Nat) (listed : Array Bool) (a : Act) (w : World), wpAny P md ops Q fuel listed a w → wpAnyIn (Fence.wide.inRound l) n P md ops Q fuel listed a w
  | 0, _, _, _, h => h
  | fuel + 1, listed, a, w, h => ⟨h.1, fun i hi => by
    have h2 := h.2 i hi
    unfold wpOp at h2
    unfold wpOpIn
    split
    · rename_i ho; simp only [ho] at h2; exact wpAnyIn_of_wpAny hlo hnd fuel _ _ _ h2
    · rename_i o ho
      simp only [ho] at h2
      split
      · rename_i hw
        simp only [hw, if_true] at h2
        rcases h2 with h2 | h2
        · exact wpIn_of_wpS (Oper.semAt_some l _ _ (hnd i o ho)) (Oper.wp_mono (fun a' w' h' => wpAnyIn_of_wpAny hlo hnd fuel _ a' w' h') h2)
        · exact absurd h2.2 hlo
      · rename_i hw; simp only [hw] at h2; exact ⟨fun _ _ => trivial, wpAnyIn_of_wpAny hlo hnd fuel _ _ _ h2⟩⟩
theorem noDeferS_spec (hnd : noDeferS ops.toList = true) : ∀ (i : Nat) (o : Oper), ops[i]? = some o → ∀ c, o.op ≠ .defer c := by
  intro i o ho c hc
  have hmem : o ∈ ops.toList := by rw [← Array.getElem?_toList] at ho; exact List.mem_of_getElem? ho
  have := List.all_eq_true.1 hnd o hmem
  rw [hc] at this; cases this
theorem wpIn_region_S {l n : Nat} {id : Nat} {a : Act} {w : World} (m : Nat) (S : World → Prop) (σ : List (Nat × Bool)) (hm : P.follows .mixedOrders = true) (hnd : noDeferS ops.toList = true) (hB : planB .any ops m σ = true)
    (hS : S w.drew) (h : S w.drew → wpS P ops S (nrm Q) (ops.toList.drop m) σ a w.drew) : (Code.region id ops true).wpIn (Fence.wide.inRound l) n P Q a w :=
  wpIn_mono (wpIn_region_any hm (wpAnyIn_of_wpAny (Q := nrm Q) (fun ⟨_, _, h⟩ => h.elim) (noDeferS_spec hnd) _ _ _ _ (wpAny_of_S σ hB hS (h hS)))) fun _ _ _ h => nrm_of h
end

end Go.Proofs.Ytljobojdcnhecaa
