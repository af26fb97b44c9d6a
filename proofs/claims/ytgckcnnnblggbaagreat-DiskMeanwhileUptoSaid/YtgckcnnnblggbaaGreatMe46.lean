/- Texts of this claim, one behind the other: ReN, DlJ, DlK, DlL. -/
import Derived.Test.YtgckcnnnblggbaaGreatSt13
import Derived.OrdersHeld
import Derived.OrdersIn
import Derived.Test.YtgckcnnnblggbaaGreatSt32
import Derived.Handy
set_option linter.unusedSimpArgs false
set_option linter.unusedVariables false
/- A region that draws its order, inside a fence: a load may be taken first where a condition on the world, shown anew behind each operation, says what it reads. -/
namespace Go.Proofs.YtgckcnnnblggbaaGreat

section
variable {F : Fence} {n : Nat} {P : Program} {ops : Array Oper} {Q : Exit → Act → World → Prop} {md : Region.Mode} {S : World → Prop}

/-- as wpAnyIn, with S shown behind every operation -/
def wpInS (F : Fence) (n : Nat) (P : Program) (md : Region.Mode) (ops : Array Oper) (Q : Exit → Act → World → Prop) (S : World → Prop) : Nat → Array Bool → Act → World → Prop
  | 0, listed, a, w => Region.ready md ops listed = [] ∧ Q .normal a w
  | k + 1, listed, a, w => (Region.ready md ops listed = [] → Q .normal a w) ∧
      ∀ i ∈ Region.ready md ops listed, wpOpIn F n P ops Q i (fun a' w' => S w' ∧ wpInS F n P md ops Q S k (listed.setIfInBounds i true) a' w') a w
theorem wpInS.plain : ∀ (k : Nat) (listed : Array Bool) (a : Act) (w : World), wpInS F n P md ops Q S k listed a w → wpAnyIn F n P md ops Q k listed a w
  | 0, _, _, _, h => h
  | k + 1, _, _, _, h => ⟨h.1, fun i hi => wpOpIn_mono (fun a' w' h' => wpInS.plain k _ a' w' h'.2) (h.2 i hi)⟩
/-- what an operation yields wherever S holds; it calls nothing -/
def SaysIn (P : Program) (ops : Array Oper) (S : World → Prop) (o : Oper) (v : Value) (a : Act) : Prop := YieldsIf P ops S o v a ∧ ∀ w, o.about P w a.eval = none
theorem SaysIn.now {i : Nat} {o : Oper} {v : Value} {a : Act} (hro : F.round = none) (hi : ops[i]? = some o) (hy : SaysIn P ops S o v a) {K : Act → World → Prop} {w : World} (hS : S w) (h : K (a.put o.dst v) w) : wpOpIn F n P ops Q i K a w := by
  have hab : ∀ f, o.about P w a.eval = some f → F.fn f := fun f hf => by rw [hy.2 w] at hf; cases hf
  unfold Go.wpOpIn
  simp only [hi]
  obtain ⟨hw, hv⟩ | ⟨hw, rfl⟩ := hy.1
  · rw [if_pos hw]
    unfold Oper.wpIn
    rw [hro, Oper.semAt_none, hv w hS]
    exact ⟨hab, h⟩
  · rw [if_neg (by rw [hw]; simp)]
    exact ⟨hab, h⟩
theorem SaysIn.later {o oj : Oper} {v u : Value} {a : Act} (hy : SaysIn P ops S o v a) (hs : ∀ cs b, o.op ≠ .select cs b) (h : ∀ d, oj.dst = some d → d ∉ o.looksAt ops) : SaysIn P ops S o v (a.put oj.dst u) :=
  ⟨hy.1.of_same (execOp_put o hs a oj.dst u h) (wanted_put o a oj.dst u h), fun w => by rw [about_put o w a oj.dst u h]; exact hy.2 w⟩
theorem wpOpIn_swap {j : Nat} {oi oj : Oper} {v : Value} (hro : F.round = none) (hj : ops[j]? = some oj) (hap : oi.apart ops oj = true) (hsi : ∀ cs b, oi.op ≠ .select cs b) (hsj : ∀ cs b, oj.op ≠ .select cs b)
    (hQ : ∀ c a w, Q (.panic c) (a.put oi.dst v) w → Q (.panic c) a w) {K : Act → World → Prop} {a : Act} {w : World} (hy : SaysIn P ops S oi v a) (h : wpOpIn F n P ops Q j K (a.put oi.dst v) w) :
    wpOpIn F n P ops Q j (fun a' w' => SaysIn P ops S oi v a' ∧ K (a'.put oi.dst v) w') a w := by
  obtain ⟨h1, h2, h3⟩ := Oper.apart_spec hap
  unfold wpOpIn at *
  simp only [hj] at *
  rw [wanted_put oj a oi.dst v h1, about_put oj w a oi.dst v h1] at h
  by_cases hw : Region.wanted oj (yielded ops a.tmps) = true
  · rw [if_pos hw] at h ⊢
    unfold Oper.wpIn at *
    rw [about_put oj w a oi.dst v h1] at h
    obtain ⟨ha, h⟩ := h
    rw [hro, Oper.semAt_none, execOp_put oj hsj a oi.dst v h1] at h
    rw [hro, Oper.semAt_none]
    refine ⟨ha, ?_⟩
    have put1 : ∀ (u : Value), K ((a.put oi.dst v).put oj.dst u) w → True := fun _ _ => trivial
    cases hr : (execOp a.eval oj).run P w with
    | ok x w' =>
      rw [hr] at h
      cases x with
      | value u => exact ⟨hy.later hsi h3, by rw [← Act.put_comm a v u h2]; exact h⟩
      | skip => exact ⟨hy.later hsi h3, by rw [← Act.put_comm a v undef h2]; exact h⟩
      | defer d =>
        refine ⟨SaysIn.later (a := { a with defers := d :: a.defers }) ⟨hy.1.of_same rfl rfl, fun w => hy.2 w⟩ hsi h3, ?_⟩
        show K _ _
        rw [← Act.put_comm _ v undef h2, ← Act.put_defers]
        exact h
      | enter f args =>
        refine ⟨h.1, CallsIn.mono h.2 fun e w'' he => ?_⟩
        cases e with
        | returned u => exact ⟨hy.later hsi h3, by rw [← Act.put_comm a v u h2]; exact he⟩
        | panicked c => exact hQ _ _ _ he
        | outgrown => exact he
      | row row args => exact ⟨h.1, RowsIn.mono h.2 fun u w'' he => ⟨hy.later hsi h3, by rw [← Act.put_comm a v u h2]; exact he⟩⟩
      | round l f tmps assign body =>
        refine ⟨h.1, RoundIn.mono h.2 fun e w'' he => ?_⟩
        cases e with
        | returned u => exact ⟨hy.later hsi h3, by rw [← Act.put_comm a v u h2]; exact he⟩
        | panicked c => exact hQ _ _ _ he
        | outgrown => exact he
      | _ => exact h
    | halt x w' =>
      rw [hr] at h
      cases x <;> first | exact hQ _ _ _ h | exact h
  · rw [if_neg hw] at h ⊢
    exact ⟨h.1, hy.later hsi h3, by rw [← Act.put_comm a v undef h2]; exact h.2⟩
theorem wpInS.first {i : Nat} {oi : Oper} {v : Value} (hro : F.round = none) (hi : ops[i]? = some oi) (hsel : ∀ (j : Nat) (o : Oper) cs b, ops[j]? = some o → o.op ≠ .select cs b)
    (hQ : ∀ c a w, Q (.panic c) (a.put oi.dst v) w → Q (.panic c) a w) : ∀ (k : Nat) (listed : Array Bool) (a : Act) (w : World),
      (∀ j oj, ops[j]? = some oj → j ≠ i → listed.getD j true = false → (∀ e ∈ oj.after, Region.binds md e = true → e.on ≠ i) → oi.apart ops oj = true) →
      i ∈ Region.ready md ops listed → SaysIn P ops S oi v a → S w →
      wpInS F n P md ops Q S k (listed.setIfInBounds i true) (a.put oi.dst v) w → wpInS F n P md ops Q S (k + 1) listed a w
  | k, listed, a, w, hfree, hr, hy, hS, H => by
    refine ⟨fun h => (by rw [h] at hr; cases hr), fun j hj => ?_⟩
    by_cases hji : j = i
    · subst hji; exact hy.now hro hi hS ⟨hS, H⟩
    cases k with
    | zero =>
      have := ready_mono hj hji
      rw [H.1] at this
      cases this
    | succ k =>
      obtain ⟨hjun, oj, hoj, hall⟩ := mem_ready.1 hj
      have hnot : ∀ e ∈ oj.after, Region.binds md e = true → e.on ≠ i := fun e he hb heq => by
        have q1 := hall e he hb
        have q0 := (mem_ready.1 hr).1
        rw [heq] at q1
        by_cases h' : i < listed.size
        · simp [h'] at q0 q1; rw [q0] at q1; cases q1
        · simp [Array.getElem?_eq_none (by omega : listed.size ≤ i)] at q1
      have hsw := wpOpIn_swap hro hoj (hfree j oj hoj hji hjun hnot) (fun cs b => hsel i oi cs b hi) (fun cs b => hsel j oj cs b hoj) hQ hy (H.2 j (ready_mono hj hji))
      refine wpOpIn_mono (fun a' w' ⟨g1, g2, g3⟩ => ⟨g2, wpInS.first hro hi hsel hQ k _ a' w' (fun q oq hq hqi hun hno => ?_) (ready_mono hr (Ne.symm hji)) g1 g2 ?_⟩) hsw
      · refine hfree q oq hq hqi ?_ hno
        by_cases hjq : j = q
        · subst hjq; exact hjun
        · rw [getD_set_ne true hjq] at hun; exact hun
      · rw [Array.setIfInBounds_comm _ _ hji]; exact g3
theorem wpInS.take {i : Nat} {oi : Oper} {v : Value} {k : Nat} {listed : Array Bool} {a : Act} {w : World} (hro : F.round = none) (hi : ops[i]? = some oi) (hs : Region.noSelect ops = true) (hf : Region.free md ops listed i = true) (hr : (Region.ready md ops listed).contains i = true)
    (hQ : ∀ c a w, Q (.panic c) (a.put oi.dst v) w → Q (.panic c) a w) (hy : YieldsIf P ops S oi v a) (hb : ∀ w, oi.about P w a.eval = none) (hS : S w)
    (h : wpInS F n P md ops Q S k (listed.setIfInBounds i true) (a.put oi.dst v) w) : wpInS F n P md ops Q S (k + 1) listed a w :=
  wpInS.first hro hi (Region.noSelect_spec hs) hQ k listed a w (Region.free_spec hi hf) (by simpa using hr) ⟨hy, hb⟩ hS h
/-- one operation alone may come up -/
theorem wpInS.one {i : Nat} {o : Oper} {k : Nat} {listed : Array Bool} {a : Act} {w : World} (hr : Region.ready md ops listed = [i]) (ho : ops[i]? = some o)
    (h : ∀ K' : Act → World → Prop, (∀ a w, S w → wpInS F n P md ops Q S k (listed.setIfInBounds i true) a w → K' a w) → if Region.wanted o (yielded ops a.tmps) = true then Oper.wpIn F n P o a w K' Q else (∀ f, o.about P w a.eval = some f → F.fn f) ∧ K' (a.put o.dst undef) w) : wpInS F n P md ops Q S (k + 1) listed a w := by
  refine ⟨fun h0 => (by rw [h0] at hr; cases hr), fun j hj => ?_⟩
  rw [hr] at hj
  obtain rfl := List.mem_singleton.1 hj
  unfold wpOpIn
  rw [ho]
  exact h _ (fun _ _ h1 h2 => ⟨h1, h2⟩)
theorem wpInS.done {listed : Array Bool} {a : Act} {w : World} (hr : Region.ready md ops listed = []) (h : Q .normal a w) : ∀ k, wpInS F n P md ops Q S k listed a w
  | 0 => ⟨hr, h⟩
  | _ + 1 => ⟨fun _ => h, by rw [hr]; simp⟩
/-- a region in a round of a loop over a function -/
theorem wpIn_region_heldR {id l : Nat} {a : Act} {w : World} (S : World → Prop) (hm : P.follows .mixedOrders = true) (hnd : noDefer ops.toList = true) (hS : S w.drew)
    (h : S w.drew → wpInS Fence.wide n P .any ops Q S ops.size (Array.replicate ops.size false) a w.drew) : (Code.region id ops true).wpIn (Fence.wide.inRound l) n P Q a w :=
  wpIn_region_any hm (wpAnyIn_inRound rfl hnd (wpInS.plain _ _ _ _ (h hS)))
end

end Go.Proofs.YtgckcnnnblggbaaGreat
/- Disk: known: some of the chapter's rows. -/
namespace Go.Proofs.YtgckcnnnblggbaaGreat
open Go.RowKit Go.Maps

def kn (d : List UInt8) (ws : List Wr) (n : Nat) : DSt := ⟨6, [(d, [])], [([97], 0)], [], [.create [97] 0], ws, n⟩
theorem ok_a : nameOk [97] = true := (nameOk_true ⟨by decide, by decide, fun c hc => by simp at hc; subst hc; unfold ChOk; decide⟩).symm
theorem kn_1 : (DSt.empty 6).create [97] = (kn [] [] 1, 0) := by unfold DSt.create; rw [ok_a]; rfl
theorem kn_2 : (kn [] [] 1).create [97] = (kn [] [] 2, 8) := by unfold DSt.create; rw [ok_a]; rfl
theorem kn_3 : (kn [] [] 2).put [97] 0 [1, 2, 3] = (kn [1, 2, 3] [⟨0, false, 0, [1, 2, 3]⟩] 3, 0) := by rfl
theorem kn_4 : (kn [1, 2, 3] [⟨0, false, 0, [1, 2, 3]⟩] 3).put [97] 4 [] = (kn [1, 2, 3] [⟨0, false, 0, [1, 2, 3]⟩] 4, 2) := by rfl
theorem kn_5 : (kn [1, 2, 3] [⟨0, false, 0, [1, 2, 3]⟩] 4).put [97] 3 [4, 5, 6, 7] = (kn [1, 2, 3] [⟨0, false, 0, [1, 2, 3]⟩] 5, 5) := by rfl
theorem kn_6 : (kn [1, 2, 3] [⟨0, false, 0, [1, 2, 3]⟩] 5).stop 9 [true] 2 = DSt.ofFiles 6 [([97], [1, 2])] := by rfl
theorem kn_7 : (kn [1, 2, 3] [⟨0, false, 0, [1, 2, 3]⟩] 5).read [97] 1 9 = ([2, 3], 0) := by rfl
theorem kn_8 : (DSt.ofFiles 6 [([97], [1, 2])]).all = [([97], [1, 2])] := by rfl
theorem kn_9 : (kn [1, 2, 3] [⟨0, false, 0, [1, 2, 3]⟩] 5).room - (kn [1, 2, 3] [⟨0, false, 0, [1, 2, 3]⟩] 5).used = 3 := by rfl
theorem kn_ok1 : (kn [] [] 1).Ok 1 := by have := (DSt.Ok.empty (room := 6) (by decide) 0).create [97]; have e := kn_1; unfold DSt.empty at e; rw [e] at this; exact this
theorem kn_ok2 : (kn [] [] 2).Ok 2 := by have := kn_ok1.create [97]; rw [kn_2] at this; exact this
theorem kn_ok3 : (kn [1, 2, 3] [⟨0, false, 0, [1, 2, 3]⟩] 3).Ok 3 := by have := kn_ok2.put [97] 0 [1, 2, 3]; rw [kn_3] at this; exact this
theorem kn_ok4 : (kn [1, 2, 3] [⟨0, false, 0, [1, 2, 3]⟩] 4).Ok 4 := by have := kn_ok3.put [97] 4 []; rw [kn_4] at this; exact this
theorem kn_ok5 : (kn [1, 2, 3] [⟨0, false, 0, [1, 2, 3]⟩] 5).Ok 5 := by have := kn_ok4.put [97] 3 [4, 5, 6, 7]; rw [kn_5] at this; exact this
theorem kn_ok6 : (DSt.ofFiles 6 [([97], [1, 2])]).Ok 10 := by have := kn_ok5.stop 9 [true] 2; rw [kn_6] at this; exact this
theorem ok_a1b : nameOk [97, 46, 49, 45, 98] = true := (nameOk_true ⟨by decide, by decide, fun c hc => by
  simp only [List.mem_cons, List.not_mem_nil, or_false] at hc
  unfold ChOk
  rcases hc with rfl | rfl | rfl | rfl | rfl <;> decide⟩).symm
theorem ok_A : nameOk [65] = false := (nameOk_false (fun h => by have := h.2.2 65 (by simp); unfold ChOk at this; revert this; decide)).symm

end Go.Proofs.YtgckcnnnblggbaaGreat
/- known: contracts. -/
namespace Go.Proofs.YtgckcnnnblggbaaGreat
open Go.RowKit Go.Maps

section
variable {lo : Nat} {w : World} {p : Nat}
theorem kc_1 (h : Has lo w p (DSt.empty 6)) : Calls Tryz.prog 34 #[.pointer (some ⟨p, 0, none⟩), .string ⟨#[97]⟩] w fun e w' => e = .returned (.int .i64 0) ∧ Has lo w' p (kn [] [] 1) ∧ Below lo w w' := by
  have := h.create (k := [97]) (by decide) (N := 0) (DSt.Ok.empty (by decide) 0) (by decide)
  rw [kn_1] at this
  exact this
theorem kc_2 (h : Has lo w p (kn [] [] 1)) : Calls Tryz.prog 34 #[.pointer (some ⟨p, 0, none⟩), .string ⟨#[97]⟩] w fun e w' => e = .returned (.int .i64 8) ∧ Has lo w' p (kn [] [] 2) ∧ Below lo w w' := by
  have := h.create (k := [97]) (by decide) kn_ok1 (by decide)
  rw [kn_2] at this
  exact this
theorem kc_3 (h : Has lo w p (kn [] [] 2)) : Calls Tryz.prog 37 #[.pointer (some ⟨p, 0, none⟩), .string ⟨#[97]⟩, .int .i64 0, .slice (some ⟨w.heap.size, 0, none⟩) 3 3] (w.alloc (.cells #[.int .u8 1, .int .u8 2, .int .u8 3] 5)) fun e w' => e = .returned (.int .i64 0) ∧ Has lo w' p (kn [1, 2, 3] [⟨0, false, 0, [1, 2, 3]⟩] 3) ∧ Below lo w w' := by
  have hlo := h.lo
  have := (h.below (below_alloc w (.cells #[.int .u8 1, .int .u8 2, .int .u8 3] 5))).put (k := [97]) (by decide) (at_ := 0) (l := [1, 2, 3]) (xc := 3) (row_built w _ _) (by simp) (by decide) (by decide) kn_ok2 (by decide)
  rw [kn_3] at this
  exact this.mono fun e w' ⟨k1, k2, k3⟩ => ⟨k1, k2, ((Below.refl lo w).alloc (by omega) _).trans k3⟩
theorem kc_4 (h : Has lo w p (kn [1, 2, 3] [⟨0, false, 0, [1, 2, 3]⟩] 3)) : Calls Tryz.prog 37 #[.pointer (some ⟨p, 0, none⟩), .string ⟨#[97]⟩, .int .i64 4, .slice none 0 0] w fun e w' => e = .returned (.int .i64 2) ∧ Has lo w' p (kn [1, 2, 3] [⟨0, false, 0, [1, 2, 3]⟩] 4) ∧ Below lo w w' := by
  have := h.put (k := [97]) (by decide) (at_ := 4) (l := []) (xa := none) (xc := 0) (RowAt.nil _ _) (by simp) (by decide) (by decide) kn_ok3 (by decide)
  rw [kn_4] at this
  exact this
theorem kc_5 (h : Has lo w p (kn [1, 2, 3] [⟨0, false, 0, [1, 2, 3]⟩] 4)) : Calls Tryz.prog 37 #[.pointer (some ⟨p, 0, none⟩), .string ⟨#[97]⟩, .int .i64 3, .slice (some ⟨w.heap.size, 0, none⟩) 4 4] (w.alloc (.cells #[.int .u8 4, .int .u8 5, .int .u8 6, .int .u8 7] 5)) fun e w' => e = .returned (.int .i64 5) ∧ Has lo w' p (kn [1, 2, 3] [⟨0, false, 0, [1, 2, 3]⟩] 5) ∧ Below lo w w' := by
  have hlo := h.lo
  have := (h.below (below_alloc w (.cells #[.int .u8 4, .int .u8 5, .int .u8 6, .int .u8 7] 5))).put (k := [97]) (by decide) (at_ := 3) (l := [4, 5, 6, 7]) (xc := 4) (row_built w _ _) (by simp) (by decide) (by decide) kn_ok4 (by decide)
  rw [kn_5] at this
  exact this.mono fun e w' ⟨k1, k2, k3⟩ => ⟨k1, k2, ((Below.refl lo w).alloc (by omega) _).trans k3⟩
theorem kc_6 (h : Has lo w p (kn [1, 2, 3] [⟨0, false, 0, [1, 2, 3]⟩] 5)) : Calls Tryz.prog 10 #[.pointer (some ⟨p, 0, none⟩), .agg #[.int .i64 9, .slice (some ⟨w.heap.size, 0, none⟩) 1 1, .int .i64 2]] (w.alloc (.cells #[.bool true] 4)) fun e w' => ∃ po, e = .returned (.pointer (some ⟨po, 0, none⟩)) ∧ Has w.heap.size w' po (DSt.ofFiles 6 [([97], [1, 2])]) ∧ Below w.heap.size w w' := by
  have := (h.below (below_alloc w (.cells #[.bool true] 4))).stop (names := 9) (torn := 2) (keep := [true]) (kc := 1) (by decide) (row_built w _ _) (by decide) kn_ok5 (by decide)
  rw [kn_6] at this
  exact this.mono fun e w' ⟨po, k1, ⟨own, R, k2, k2'⟩, k3⟩ => ⟨po, k1, ⟨own, R, k2, fun b hb => by have := k2' b hb; rw [World.size_alloc] at this; omega⟩, ((below_alloc w _).trans (k3.mono (by simp)))⟩
theorem kc_7 (h : Has lo w p (kn [1, 2, 3] [⟨0, false, 0, [1, 2, 3]⟩] 5)) : Calls Tryz.prog 65 #[.pointer (some ⟨p, 0, none⟩)] w fun e w' => e = .returned (.int .i64 3) ∧ Below w.heap.size w w' := by
  have := h.room kn_ok5 (by decide)
  rw [kn_9] at this
  exact this
theorem kc_8 (h : Has lo w p (DSt.ofFiles 6 [([97], [1, 2])])) : Calls Tryz.prog 14 #[.pointer (some ⟨p, 0, none⟩)] w fun e w' => ∃ a c, e = .returned (.slice a 1 c) ∧ FilesRd w' a [([97], [1, 2])] ∧ Below w.heap.size w w' := by
  have := h.files kn_ok6 (by decide)
  rw [kn_8] at this
  exact this.mono fun e w' ⟨v, cs, k1, k2, k3⟩ => by
    obtain ⟨a, c, rfl, hr⟩ := FilesRd.of_at k2
    exact ⟨a, c, k1, hr, k3⟩
theorem kc_9 (h : Has lo w p (kn [1, 2, 3] [⟨0, false, 0, [1, 2, 3]⟩] 5)) : Calls Tryz.prog 51 #[.pointer (some ⟨p, 0, none⟩), .string ⟨#[97]⟩, .int .i64 1, .int .i64 9] w fun e w' => ∃ a c, e = .returned (.tuple #[.slice a 2 c, .int .i64 0]) ∧ RowAt w' a [bv 2, bv 3] ∧ Below w.heap.size w w' := by
  have := h.read (k := [97]) (by decide) (at_ := 1) (n := 9) (by decide) kn_ok5 (by decide)
  rw [kn_7] at this
  exact this.mono fun e w' ⟨U, k1, k2, k3⟩ => by
    obtain ⟨a, c, rfl, _, _, hr, _⟩ := k2
    exact ⟨a, c, k1, hr, k3⟩
theorem kc_F {a : Option Addr} {c : Nat} (h : FilesRd w a [([97], [1, 2])]) : Calls Tryz.prog 13 #[.slice a 1 c, .slice (some ⟨w.heap.size + 1, 0, none⟩) 1 1]
    ((w.alloc (.cells #[.int .u8 1, .int .u8 2] 5)).alloc (.cells #[.string ⟨#[97]⟩, .slice (some ⟨w.heap.size, 0, none⟩) 2 2] 56)) fun e w' => e = .returned (.bool true) ∧ Below w.heap.size w w' := by
  have hb : Below w.heap.size w ((w.alloc (.cells #[.int .u8 1, .int .u8 2] 5)).alloc (.cells #[.string ⟨#[97]⟩, .slice (some ⟨w.heap.size, 0, none⟩) 2 2] 56)) := (below_alloc w _).alloc (by simp) _
  have h2 : FilesRd ((w.alloc (.cells #[.int .u8 1, .int .u8 2] 5)).alloc (.cells #[.string ⟨#[97]⟩, .slice (some ⟨w.heap.size, 0, none⟩) 2 2] 56)) (some ⟨w.heap.size + 1, 0, none⟩) [([97], [1, 2])] := fun _ => by
    have hr := (row_built w #[.int .u8 1, .int .u8 2] 5).below (below_alloc (w.alloc (.cells #[.int .u8 1, .int .u8 2] 5)) (.cells #[.string ⟨#[97]⟩, .slice (some ⟨w.heap.size, 0, none⟩) 2 2] 56))
    have c0 := cell_new (w.alloc (.cells #[.int .u8 1, .int .u8 2] 5)) #[.string ⟨#[97]⟩, .slice (some ⟨w.heap.size, 0, none⟩) 2 2] 56 0 _ rfl
    have c1 := cell_new (w.alloc (.cells #[.int .u8 1, .int .u8 2] 5)) #[.string ⟨#[97]⟩, .slice (some ⟨w.heap.size, 0, none⟩) 2 2] 56 1 _ rfl
    rw [World.size_alloc] at c0 c1
    refine ⟨w.heap.size + 1, 0, rfl, fun i d hd => ?_⟩
    cases i with
    | zero =>
      obtain rfl : d = ([97], [1, 2]) := by simpa using hd.symm
      exact ⟨c0, _, _, c1, hr⟩
    | succ i => simp at hd
  exact (SameFiles_any (h.below hb) h2 (by decide)).mono fun e w' ⟨k1, k2⟩ => ⟨k1, hb.trans (k2.mono (by simp; omega))⟩
theorem kc_N1 : Calls Tryz.prog 29 #[.string ⟨#[97, 46, 49, 45, 98]⟩] w fun e w' => e = .returned (.bool true) ∧ w = w' := by
  have := Name_any [97, 46, 49, 45, 98] w (by decide)
  rw [ok_a1b] at this
  exact this
theorem kc_N2 : Calls Tryz.prog 29 #[.string ⟨#[65]⟩] w fun e w' => e = .returned (.bool false) ∧ w = w' := by
  have := Name_any [65] w (by decide)
  rw [ok_A] at this
  exact this
end

end Go.Proofs.YtgckcnnnblggbaaGreat
/- Disk: known, walked. -/
namespace Go.Proofs.YtgckcnnnblggbaaGreat
open Go.RowKit Go.Maps
set_option maxRecDepth 100000 in
set_option maxHeartbeats 1000000 in
theorem known_any (w : World) : Calls Tryz.prog 16 #[] w fun e w' => e = .returned (.bool true) ∧ Below w.heap.size w w' := by
  have c0 := Has.new (cap := 6) (by decide) w
  have cN := num_any
  go_enter Tryz.func16, Tryz.ntmps16
  go_wp2_with (first
    | (go_at_call 8; refine (cN _ _).mono ?_; rintro _ wn ⟨rfl, rfl⟩)
    | (go_at_call 51; refine (kc_9 HDc).mono ?_; rintro _ wd ⟨ra, rc, rfl, hrr, BD⟩
       have hcv1 : (convert 36 9 (.slice ra 2 rc)).run Tryz.prog wd = .ok (.string ⟨#[2, 3]⟩) wd := run_conv (P := Tryz.prog) 36 9 5 Tryz.underlying36 Tryz.underlying5 Tryz.underlying9 (c := rc) (l := [2, 3]) hrr
       have hcv2 : (convert 36 9 (.slice (some ⟨wd.heap.size, 0, none⟩) 2 2)).run Tryz.prog (wd.alloc (.cells #[.int .u8 2, .int .u8 3] 5)) = .ok (.string ⟨#[2, 3]⟩) (wd.alloc (.cells #[.int .u8 2, .int .u8 3] 5)) := run_conv (P := Tryz.prog) 36 9 5 Tryz.underlying36 Tryz.underlying5 Tryz.underlying9 (c := 2) (l := [2, 3]) (row_built wd #[.int .u8 2, .int .u8 3] _))
    | (go_at_call 29; with_reducible refine kc_N1.mono ?_; rintro _ we ⟨rfl, rfl⟩)
    | (go_at_call 29; with_reducible refine kc_N2.mono ?_; rintro _ we ⟨rfl, rfl⟩)
    | (go_at_call 13; refine (kc_F hfr).mono ?_; rintro _ wc ⟨rfl, BC⟩; have HDc := ((HD8.below BA).below BB).below BC)
    | (go_at_call 14; refine (kc_8 HS).mono ?_; rintro _ wb ⟨fa, fc, rfl, hfr, BB⟩)
    | (go_at_call 65; refine (kc_7 HD8).mono ?_; rintro _ wa ⟨rfl, BA⟩; have HS := HS8.below BA)
    | (go_at_call 64; refine HD8.steps.mono ?_; rintro _ w9 ⟨rfl, rfl⟩)
    | (go_at_call 10; refine (kc_6 H7).mono ?_; rintro _ w8 ⟨po, rfl, HS8, B7⟩; have HD8 := H7.below B7)
    | (go_at_call 17; refine H5.pending.mono ?_; rintro _ w7 ⟨rfl, B6⟩; have H7 := H5.below B6)
    | (go_at_call 37; refine (kc_5 H4).mono ?_; rintro _ w6 ⟨rfl, H5, B5⟩)
    | (go_at_call 37; refine (kc_4 H3).mono ?_; rintro _ w5 ⟨rfl, H4, B4⟩)
    | (go_at_call 37; refine (kc_3 H2).mono ?_; rintro _ w4 ⟨rfl, H3, B3⟩)
    | (go_at_call 34; refine (kc_2 H1).mono ?_; rintro _ w3 ⟨rfl, H2, B2⟩)
    | (go_at_call 34; refine (kc_1 H0).mono ?_; rintro _ w2 ⟨rfl, H1, B1⟩)
    | (go_at_call 22; refine c0.mono ?_; rintro _ w1 ⟨p, rfl, H0, B0⟩)
    )
  go_ret
  refine ⟨rfl, ?_⟩
  have k6 := ((((B0.trans B1).trans B2).trans B3).trans B4).trans B5
  have k7 := k6.trans (B6.mono k6.size)
  have k8 := k7.trans (B7.mono k7.size)
  have ka := k8.trans (BA.mono k8.size)
  have kb := ka.trans (BB.mono ka.size)
  have kc := kb.trans (BC.mono kb.size)
  have kd := kc.trans (BD.mono kc.size)
  exact kd.alloc kd.size _

end Go.Proofs.YtgckcnnnblggbaaGreat
