/- Texts of this claim, one behind the other: IbO, IbP. -/
import Derived.Test.YtljobojdcnhecaaFm12
import Derived.RangeFuncKeeps
import Derived.RangeFuncFrom
import Derived.Test.YtljobojdcnhecaaFm14
set_option linter.unusedSimpArgs false
set_option linter.unusedVariables false
set_option maxRecDepth 100000
set_option maxHeartbeats 8000000
namespace Go.Proofs.Ytljobojdcnhecaa
/- Loops over an iterator that tells, at each item, what holds of the memory there; a round may be left. -/
open Go.RowKit

section
variable {F : Fence} {n : Nat} {P : Program}
/-- an iterator: Y tells what holds of an item, behind the items pre, between the world W0 (where the loop's facts held) and W1 (where it is handed out): W1 has new memory only -/
def SeqY {α : Type} (F : Fence) (n : Nat) (P : Program) (g : Nat) (lb : Array Value) (encs : α → Array Value) (Y : List α → α → World → World → Prop) (Kp : World → World → Prop) (S Sp : List α → Prop) (w : World) : Prop :=
  ∀ (l : Nat) (J Jx : List α → World → Prop) (W : World), Below w.heap.size w W → (∀ s A B, J s A → A.grownBy B none → J s B) →
    (∀ pre x W0 W1, J pre W0 → Y pre x W0 W1 → YieldAt F (n - 1) P l (encs x) W1 fun e W' => (e = .returned (.bool true) ∧ J (pre ++ [x]) W' ∧ Kp W1 W') ∨ (e = .returned (.bool false) ∧ Jx (pre ++ [x]) W')) →
    J [] W → CallsIn F n P g (#[.func (.yield l) #[] #[]] ++ lb) W fun e W' => (∃ v, e = .returned v) ∧ ((∃ xs, S xs ∧ J xs W') ∨ (∃ pre, Sp pre ∧ Jx pre W'))
/-- how a round may be left -/
def postY {α : Type} (b : Nat) (Kp : World → World → Prop) (I : List α → World → Prop) (Ix : Code → List α → World → Prop) (xs : List α) (W1 W2 : World) : Exit → Act → World → Prop
  | .normal, _, W' => (∀ k, b ≤ k → k ≤ b + 1 → W'.heap[k]? = W2.heap[k]?) ∧ Kp W1 W' ∧ I xs W'
  | .ret, _, W' => (∀ k, b ≤ k → k ≤ b + 1 → W'.heap[k]? = W2.heap[k]?) ∧ Ix .ret xs W'
  | .exit id, _, W' => (∀ k, b ≤ k → k ≤ b + 1 → W'.heap[k]? = W2.heap[k]?) ∧ Ix (.exit id) xs W'
  | .goto t, _, W' => (∀ k, b ≤ k → k ≤ b + 1 → W'.heap[k]? = W2.heap[k]?) ∧ Ix (.goto t) xs W'
  | .panic _, _, _ => False
  | .outgrown, _, _ => False

theorem wpIn_rangeFunc_Y {α : Type} {g : Operand} {ps : Array Tmp} {assign body : Code} {Q : Exit → Act → World → Prop} {a : Act} {w : World}
    (hro : F.round = none) (h1 : 1 ≤ n) {gf : Nat} {lb : Array Value} (hg : a.eval g = .func (.func gf) #[] lb) (hFg : F.fn gf) (eg : ∀ args w, (callFunc gf args).run P w = .ok (.enter gf args) w)
    {encs : α → Array Value} {Y : List α → α → World → World → Prop} {Kp : World → World → Prop} {S Sp : List α → Prop} {w0 : World} (hseq : SeqY F (n - 1) P gf lb encs Y Kp S Sp w0)
    (hKt : ∀ {A B C : World}, Kp A B → Kp B C → Kp A C) (hKl : ∀ (W : World) (o o' : Loop), W.heap[w.heap.size + 1]? = some (.loop o) → Kp W (W.putObj (w.heap.size + 1) (.loop o'))) (hb0 : Below w0.heap.size w0 w) (hps : ∀ x, (encs x).size = ps.size)
    (hYg : ∀ pre x W0 W1, Y pre x W0 W1 → W0.grownBy W1 none)
    (I : List α → World → Prop) (Ix : Code → List α → World → Prop) (hI : ∀ s A B, I s A → A.grownBy B none → I s B) (hIl : ∀ s W (o o' : Loop), I s W → W.heap[w.heap.size + 1]? = some (.loop o) → I s (W.putObj (w.heap.size + 1) (.loop o')))
    (hIxl : ∀ c s W (o o' : Loop), Ix c s W → W.heap[w.heap.size + 1]? = some (.loop o) → Ix c s (W.putObj (w.heap.size + 1) (.loop o'))) (h0 : I [] w)
    (hround : ∀ (l : Nat) (pre : List α) (x : α) (W0 W : World), I pre W0 → Y pre x W0 W → w.heap.size + 1 < W0.heap.size →
      assign.wpIn (F.inRound l) (n - 1 - 1) P (Exit.then (fun a1 W1 => (∀ b, w.heap.size ≤ b → b ≤ w.heap.size + 1 → W1.heap[b]? = W.heap[b]?) ∧ ∀ o o' : Loop, W1.heap[w.heap.size + 1]? = some (.loop o) →
        body.wpIn (F.inRound l) (n - 1 - 1) P (postY w.heap.size Kp I Ix (pre ++ [x]) W (W1.putObj (w.heap.size + 1) (.loop o'))) a1 (W1.putObj (w.heap.size + 1) (.loop o'))) (fun _ _ _ => False))
        { tmps := (ps.zip (encs x)).foldl (fun t (p, v) => t.setIfInBounds p v) a.tmps, defers := [] } W)
    (hdone : ∀ (xs : List α) (W : World), S xs → I xs W → W.heap[w.heap.size]? = some (.deferred (some [])) → Q .normal { a with defers := { target := .collected w.heap.size, args := #[] } :: a.defers } W)
    (hstop : ∀ (c : Code) (pre : List α) (W : World), Sp pre → Ix c pre W → W.heap[w.heap.size]? = some (.deferred (some [])) → c.wpIn F n P Q { a with defers := { target := .collected w.heap.size, args := #[] } :: a.defers } W) :
    (Code.rangeFunc g ps assign body).wpIn F n P Q a w := by
  refine wpIn_rangeFunc fun fn hfn => ?_
  rw [hro]
  let st : LoopState → Option Code → Loop := fun s pe => { state := s, pending := pe, fn, tmps := a.tmps, params := ps, assign, body, defers := w.heap.size }
  obtain ⟨V, hV⟩ : ∃ V, (w.alloc (.deferred (some []))).alloc (.loop (st .ready none)) = V := ⟨_, rfl⟩
  have hVl : V.heap[w.heap.size + 1]? = some (.loop (st .ready none)) := by
    have := World.alloc_heap_new (w.alloc (.deferred (some []))) (.loop (st .ready none))
    rw [World.size_alloc, hV] at this; exact this
  have hVd : V.heap[w.heap.size]? = some (.deferred (some [])) := by rw [← hV]; exact (Below.heap_alloc _ _ _ (by simp)).trans (World.alloc_heap_new w _)
  have hVI : I [] V := by
    rw [← hV]
    exact hI _ _ _ (hI _ _ _ h0 (World.grownBy_alloc _ _ none)) (World.grownBy_alloc _ _ none)
  have hVb : Below w0.heap.size w0 V := by rw [← hV]; exact hb0.trans ((((Below.refl _ w).alloc (Nat.le_refl _) _).alloc (by simp) _).mono hb0.size)
  refine ⟨w.heap.size + 1, [{ target := .collected w.heap.size, args := #[] }], V, { target := .fn (.func gf) lb, args := #[.func (.yield (w.heap.size + 1)) #[] #[]] }, V, gf,
    #[.func (.yield (w.heap.size + 1)) #[] #[]] ++ lb, V, ?_, ?_, ?_, ?_, fun _ => h1, ?_⟩
  · rw [← hV]; exact run_enterLoop_outer _ _ _ _ _
  · simp only [resolve, hg]
    simp [go_sem]
  · intro f' hf'; simp [Target.leads] at hf'; subst hf'; exact hFg
  · simp [invoke, go_sem, eg]
  refine (hseq (w.heap.size + 1) (fun s W => I s W ∧ W.heap[w.heap.size + 1]? = some (.loop (st .ready none)) ∧ W.heap[w.heap.size]? = some (.deferred (some [])))
    (fun s W => ∃ c, Ix c s W ∧ W.heap[w.heap.size + 1]? = some (.loop (st .done (some c))) ∧ W.heap[w.heap.size]? = some (.deferred (some []))) V hVb ?_ ?_ ⟨hVI, hVl, hVd⟩).mono ?_
  · rintro s A B ⟨i1, i2, i3⟩ hgr
    exact ⟨hI _ _ _ i1 hgr, (hgr.block _ (heap_lt i2) (by simp)).trans i2, (hgr.block _ (heap_lt i3) (by simp)).trans i3⟩
  · rintro pre x W0 W ⟨i1, i2', i3'⟩ hpre
    have hgr := hYg _ _ _ _ hpre
    have i2 := (hgr.block _ (heap_lt i2') (by simp)).trans i2'
    have i3 := (hgr.block _ (heap_lt i3') (by simp)).trans i3'
    have hlt := heap_lt i2'
    refine ⟨fn, _, assign, body, run_yield (P := P) (args := encs x) i2 (by exact hps x), roundIn_of_wpIn hfn (wpIn_mono (hround _ pre x W0 W i1 hpre hlt) ?_)⟩
    intro e a1 W1 he
    cases e with
    | normal =>
      obtain ⟨hsm, hbd⟩ : (∀ b, w.heap.size ≤ b → b ≤ w.heap.size + 1 → W1.heap[b]? = W.heap[b]?) ∧ _ := he
      have k2 := (hsm (w.heap.size + 1) (by omega) (Nat.le_refl _)).trans i2
      have k3 := (hsm w.heap.size (Nat.le_refl _) (by omega)).trans i3
      have hlt1 := heap_lt k2
      refine ⟨_, run_beginRound k2 rfl, ?_⟩
      have j2 : (W1.putObj (w.heap.size + 1) (.loop (st .busy none))).heap[w.heap.size + 1]? = some (.loop (st .busy none)) := World.putObj_heap_same hlt1
      have j3 : (W1.putObj (w.heap.size + 1) (.loop (st .busy none))).heap[w.heap.size]? = some (.deferred (some [])) := (World.putObj_heap_other (by omega)).trans k3
      refine wpIn_mono (hbd (st .ready none) (st .busy none) k2) ?_
      have fin : ∀ (jump : Option Code) (W3 : World), (∀ b, w.heap.size ≤ b → b ≤ w.heap.size + 1 → W3.heap[b]? = (W1.putObj (w.heap.size + 1) (.loop (st .busy none))).heap[b]?) →
          (Instr.endRound (w.heap.size + 1) jump).run P W3 = .ok (.bool jump.isNone) (W3.putObj (w.heap.size + 1) (.loop (st (if jump.isNone then .ready else .done) jump))) ∧ W3.heap[w.heap.size + 1]? = some (.loop (st .busy none)) ∧
          (W3.putObj (w.heap.size + 1) (.loop (st (if jump.isNone then .ready else .done) jump))).heap[w.heap.size + 1]? = some (.loop (st (if jump.isNone then .ready else .done) jump)) ∧
          (W3.putObj (w.heap.size + 1) (.loop (st (if jump.isNone then .ready else .done) jump))).heap[w.heap.size]? = some (.deferred (some [])) := fun jump W3 hsame => by
        have m2 := (hsame (w.heap.size + 1) (by omega) (Nat.le_refl _)).trans j2
        have m3 := (hsame w.heap.size (Nat.le_refl _) (by omega)).trans j3
        exact ⟨run_endRound (P := P) jump m2, m2, World.putObj_heap_same (heap_lt m2), (World.putObj_heap_other (by omega)).trans m3⟩
      rintro e a3 W3 hp
      cases e with
      | normal =>
        obtain ⟨hsame, hK3, hI3⟩ := hp
        obtain ⟨hr, m2, m4, m5⟩ := fin none W3 hsame
        exact ⟨_, _, hr, .inl ⟨rfl, ⟨hIl _ _ _ _ hI3 m2, m4, m5⟩, hKt hK3 (hKl _ _ _ m2)⟩⟩
      | ret =>
        obtain ⟨hsame, hI3⟩ := hp
        obtain ⟨hr, m2, m4, m5⟩ := fin (some .ret) W3 hsame
        exact ⟨_, _, hr, .inr ⟨rfl, .ret, hIxl _ _ _ _ _ hI3 m2, m4, m5⟩⟩
      | exit id =>
        obtain ⟨hsame, hI3⟩ := hp
        obtain ⟨hr, m2, m4, m5⟩ := fin (some (.exit id)) W3 hsame
        exact ⟨_, _, hr, .inr ⟨rfl, .exit id, hIxl _ _ _ _ _ hI3 m2, m4, m5⟩⟩
      | goto t =>
        obtain ⟨hsame, hI3⟩ := hp
        obtain ⟨hr, m2, m4, m5⟩ := fin (some (.goto t)) W3 hsame
        exact ⟨_, _, hr, .inr ⟨rfl, .goto t, hIxl _ _ _ _ _ hI3 m2, m4, m5⟩⟩
      | panic ch => exact hp.elim
      | outgrown => exact hp.elim
    | _ => exact he.elim
  · rintro e W2 ⟨⟨v, rfl⟩, (⟨xs, hS, i1, i2, i3⟩ | ⟨pre, hSp, c, i1, i2, i3⟩)⟩
    · exact ⟨none, _, run_endLoop (P := P) i2 (by simp [st]), hdone xs _ hS (hIl _ _ _ _ i1 i2) ((World.putObj_heap_other (by omega)).trans i3)⟩
    · exact ⟨some c, _, run_endLoop (P := P) i2 (by simp [st]), hstop c pre _ hSp (hIxl _ _ _ _ _ i1 i2) ((World.putObj_heap_other (by omega)).trans i3)⟩
end

/- Find: All: the iterator over the order. -/
open Go.RowKit Go.Maps Go.MapKept

theorem wpListIn_load_mid {F : Fence} {n : Nat} {P : Program} {ops : Array Oper} {rest : List Oper} {op : Oper} {a : Act} {w : World} {Q : Exit → Act → World → Prop} (hg : op.guard = none) (ty : TypeId) (x : Operand) (ho : op.op = .load ty x) (b o : Nat) (hx : a.eval x = .pointer (some ⟨b, o, none⟩)) (cs : List Value) (d : TypeDesc) (hc : w.rangeAt b o cs)
    (hu : P.underlying ty = some d) (hd : d.isRow = true) (hi : (P.info? ty).map (·.size) = some cs.length) (hk : wpListIn F n P ops Q rest (a.put op.dst (.agg cs.toArray)) w) : wpListIn F n P ops Q (op :: rest) a w := by
  refine wpListIn_plain hg fun K hK => ?_
  unfold Oper.wpIn
  refine ⟨by simp [Oper.about, ho], ?_⟩
  rw [Oper.semAt_plain F _ _ (by rw [ho]; intro c hc'; cases hc'), exec_load_mid ty x ho b o hx cs d hc hu hd hi]
  exact hK _ _ hk
theorem wpListIn_store_row {F : Fence} {n : Nat} {P : Program} {ops : Array Oper} {rest : List Oper} {op : Oper} {a : Act} {w : World} {Q : Exit → Act → World → Prop} (hg : op.guard = none) (ty : TypeId) (x y : Operand) (ho : op.op = .store ty x y) (g : Nat) (cells : Array Value) (hx : a.eval x = .pointer (some ⟨g, 0, none⟩)) (hy : a.eval y = .agg cells)
    (old : Array Value) (t : TypeId) (hh : w.heap[g]? = some (.cells old t (0, 0))) (hi : (P.info? ty).map (·.size) = some cells.size) (hs : old.size = cells.size) (h1 : cells.all (·.oneCell') = true) (hk : wpListIn F n P ops Q rest (a.put op.dst undef) (w.setRow g cells)) : wpListIn F n P ops Q (op :: rest) a w := by
  refine wpListIn_plain hg fun K hK => ?_
  unfold Oper.wpIn
  refine ⟨by simp [Oper.about, ho], ?_⟩
  rw [Oper.semAt_plain F _ _ (by rw [ho]; intro c hc'; cases hc')]
  simp [execOp, ho, hx, hy, Instr.storeAt, Instr.sureAddr, run_storeVar_row w g t ty old cells hh hi hs h1, Result.andThen]
  exact hK _ _ hk
/-- All: a closure over a box that points to the index -/
theorem all_any (w : World) (v : Value) (hv : v = .pointer none ∨ ∃ bx : Nat, v = .pointer (some ⟨bx, 0, none⟩)) : Calls Try.prog 9 #[v] w fun e w' => e = .returned (.func (.func 31) #[] #[.pointer (some ⟨w.heap.size, 0, none⟩)]) ∧ w'.heap[w.heap.size]? = some (.cells #[v] 24 (0, 0)) ∧ Below w.heap.size w w' := by
  obtain ⟨w1, hw1, hb1, hz1, hx1⟩ := al1 w #[v] 24
  rcases hv with rfl | ⟨bx, rfl⟩
  · go_enter Try.func9, Try.ntmps9
    go_wp2
    go_ret
    exact ⟨rfl, hx1, hb1⟩
  · go_enter Try.func9, Try.ntmps9
    go_wp2
    go_ret
    exact ⟨rfl, hx1, hb1⟩
def encP (p : PN) : Array Value := #[hashV p.1, .int .i64 (p.2 : Int)]
/-- an item of the order -/
def YP (O : List PN) (pre : List PN) (x : PN) (W0 W1 : World) : Prop := O[pre.length]? = some x ∧ Below W0.heap.size W0 W1
theorem YP.grown {O pre : List PN} {x : PN} {W0 W1 : World} (h : YP O pre x W0 W1) : W0.grownBy W1 none := Below.grownBy h.2
/-- what a round keeps: the order's row -/
def KpO (v : Value) (W W' : World) : Prop := W.heap.size ≤ W'.heap.size ∧ ∀ b, v.ownBlock = some b → W'.heap[b]? = W.heap[b]?
theorem KpO.refl (v : Value) (A : World) : KpO v A A := ⟨Nat.le_refl _, fun _ _ => rfl⟩
theorem KpO.trans {v : Value} {A B C : World} (h : KpO v A B) (k : KpO v B C) : KpO v A C := ⟨Nat.le_trans h.1 k.1, fun b hb => (k.2 b hb).trans (h.2 b hb)⟩
theorem KpO.row {v : Value} {A B : World} {lo s n : Nat} {e : TypeId} {xs : List Value} (h : KpO v A B) (hr : A.ownsRow lo e s v n xs) : B.ownsRow lo e s v n xs := by
  refine ⟨hr.1, hr.2.imp id ?_⟩
  rintro ⟨g, cap, cur, rfl, h3, h4, h5⟩
  exact ⟨g, cap, cur, rfl, h3, (h.2 g rfl).trans h4, h5⟩
theorem all1_nil (n : Nat) {w : World} {gx : Nat} (hx : w.heap[gx]? = some (.cells #[.pointer none] 24 (0, 0))) (Kp : World → World → Prop) :
    SeqY Fence.wide n Try.prog 31 #[.pointer (some ⟨gx, 0, none⟩)] encP (YP []) Kp (fun xs => xs = []) (fun _ => False) w := by
  intro l J Jx W hW hJ hY h0
  have hx1 := (hW.block _ (heap_lt hx)).trans hx
  have c0 := ce0 hx1
  refine callsIn_of_wp Try.func31 rfl trivial ?_ rfl
  simp only [Try.ntmps31, List.size_toArray, List.length_cons, List.length_nil, Nat.reduceAdd, Nat.reduceSub, Array.replicate_succ, Array.replicate_zero, List.push_toArray, List.append_toArray, List.nil_append, List.cons_append]
  have HJ := Lib.hid h0
  clear hY hJ h0 hx hx1
  gi_wp2
  exact bodyPost_ret (results_none rfl _ _ _) rfl ⟨⟨_, rfl⟩, .inl ⟨[], rfl, HJ.out⟩⟩
theorem all1_seq (n : Nat) (hn : 1 ≤ n) {w : World} {gx bx : Nat} {ve vo vm : Value} {O : List PN} (hx : w.heap[gx]? = some (.cells #[.pointer (some ⟨bx, 0, none⟩)] 24 (0, 0))) (hbx : w.heap[bx]? = some (.cells #[ve, vo, vm] 58 (0, 0)))
    (hO : w.ownsRow 0 62 33 vo O.length (O.flatMap fc)) (hok : Ok32 O) (hl : O.length ≤ 4194304) :
    SeqY Fence.wide n Try.prog 31 #[.pointer (some ⟨gx, 0, none⟩)] encP (YP O) (KpO vo) (fun xs => xs = O) (fun pre => ∃ k, k < O.length ∧ pre = O.take (k + 1)) w := by
  intro l J Jx W hW hJ hY h0
  have c0 := ce0 ((hW.block _ (heap_lt hx)).trans hx)
  have c1 := ce1 ((hW.block _ (heap_lt hbx)).trans hbx)
  have hOW := row_below hO hW
  obtain ⟨oa, oc, rfl, hoc, hon, hor, hoo⟩ := row_slice2 hOW
  have HY := Lib.hid hY
  have HO := Lib.hid (And.intro hOW hok)
  have HL := Lib.hid hl
  refine callsIn_of_wp Try.func31 rfl trivial ?_ rfl
  simp only [Try.ntmps31, List.size_toArray, List.length_cons, List.length_nil, Nat.reduceAdd, Nat.reduceSub, Array.replicate_succ, Array.replicate_zero, List.push_toArray, List.append_toArray, List.nil_append, List.cons_append]
  clear hY hx hbx hO hok hOW hor hoo hoc hon
  gi_wp2
  clear c0 c1
  gi_loopw [12] (fun i wr => ∃ k : Nat, k ≤ O.length ∧ i = .int .i64 k ∧ Hid (J (O.take k) wr) ∧ KpO (.slice oa O.length oc) W wr) (fun i _ => O.length - (RowKit.intOf i).toNat)
  case atStart => exact ⟨0, Nat.zero_le _, rfl, h0, KpO.refl _ _⟩
  case round =>
    obtain ⟨k, hk, rfl, hJs, hkp⟩ := hrel
    by_cases hlt : k < O.length
    · obtain ⟨p, hp⟩ : ∃ p, O[k]? = some p := ⟨_, List.getElem?_eq_getElem hlt⟩
      have hp32 := HO.out.2 p (List.mem_of_getElem? hp)
      have hrow := hkp.row HO.out.1
      obtain ⟨oa', oc', e, _, _, hor, hoo⟩ := row_slice2 hrow
      cases e
      obtain ⟨sb, so, rfl, hcell⟩ := hor (by
        intro e
        have h1 := flat_fc HO.out.2
        rw [e] at h1
        simp at h1
        omega)
      have hrp : wr.rangeAt sb (so + k * 33) (fc p) := fun j v hj => by
        rw [Nat.add_assoc]
        exact hcell _ v (flat_at HO.out.2 hp j v hj)
      obtain ⟨w4, hw4, hb4, hz4, hx4⟩ := al1 wr (fc p).toArray 62
      have hfl : Hid ((fc p).length = 33) := fc_len hp32
      have hfz : Hid ((fc p).toArray.size = 33) := by show _ = _; rw [List.size_toArray, hfl.out]
      have hpl : Hid (p.1.length = 32) := hp32
      have hr1 := range_left (xs := p.1.map bv) (ys := [.int .i64 (p.2 : Int)]) (range_heap hx4)
      have q4 := cell_of_heap hx4 (i := 32) (v := .int .i64 (p.2 : Int)) (by rw [List.getElem?_toArray]; unfold fc; rw [List.getElem?_append_right (by simp [hp32]), List.length_map, hp32]; rfl)
      obtain ⟨fn, tmps, assign, body, hy, hR⟩ := HY.out (O.take k) p wr w4 hJs.out ⟨by rw [List.length_take, Nat.min_eq_left (by omega)]; exact hp, hb4⟩
      have hts : O.take (k + 1) = O.take k ++ [p] := by rw [List.take_add_one, hp]; rfl
      have hk4 : KpO (.slice (some ⟨sb, so, none⟩) O.length oc) wr w4 := ⟨hb4.size, fun b hb => hb4.block b (by
        rcases hrow.2 with ⟨e, _⟩ | ⟨g, cap, cur, e, _, hg, _⟩
        · cases e
        · rw [e] at hb; cases hb; exact heap_lt hg)⟩
      simp only [encP, hashV] at hy
      have HR := Lib.hid hR
      have HP := Lib.hid (And.intro hrp (And.intro hr1 (And.intro hts (hkp.trans hk4))))
      have j0 : (0 : Int) ≤ (k : Int) := by omega
      have j1 : (k : Int) < (O.length : Int) := by omega
      clear hor hoo hcell hrp hx4 hr1 hrow hp hp32 hkp hJs hts hb4 hz4 hR hk4
      gi_wp2_with (first
        | (refine wpListIn_load_mid rfl 62 _ rfl sb (so + k * 33) (by rfl) _ _ HP.out.1 Try.underlying62 rfl (by rw [hfl.out]; kernel_rfl) ?_)
        | (refine wpListIn_store_row rfl _ _ _ rfl wr.heap.size (fc p).toArray (by rfl) (by rfl) _ _ (World.alloc_heap_new wr _) (by rw [hfz.out]; kernel_rfl) (by rw [hfz.out]; rfl) (all_oneCell_toArray (fun v hv => fc_one (L := [p]) v (by simpa using hv))) ?_; rw [World.setRow_alloc_new, hw4])
        | (refine wpListIn_load_mid rfl 33 _ rfl wr.heap.size 0 (by rfl) _ _ HP.out.2.1 Try.underlying33 rfl (by rw [List.length_map, hpl.out]; kernel_rfl) ?_))
      refine HR.out.mono ?_
      rintro e3 W3 (⟨rfl, hj, hkp3⟩ | ⟨rfl, hjx⟩)
      · have HJ := Lib.hid (And.intro hj hkp3)
        clear hj hkp3
        gi_wp2
        exact ⟨⟨k + 1, by omega, by go_num, Lib.hid (by rw [HP.out.2.2.1]; exact HJ.out.1), HP.out.2.2.2.trans HJ.out.2⟩, by simp [RowKit.intOf]; omega⟩
      · have HJ := Lib.hid hjx
        clear hjx
        gi_wp2
        exact bodyPost_ret (results_none rfl _ _ _) rfl ⟨⟨_, rfl⟩, .inr ⟨O.take k ++ [p], ⟨k, by omega, HP.out.2.2.1.symm⟩, HJ.out⟩⟩
    · have e : k = O.length := by omega
      subst e
      rw [List.take_length] at hJs
      have j2 : ¬ ((O.length : Int) < (O.length : Int)) := by omega
      clear hlt
      gi_wp2
      go_end0
      exact ⟨⟨_, rfl⟩, .inl hJs.out⟩

end Go.Proofs.Ytljobojdcnhecaa
