/- Texts of this claim, one behind the other: ReK, ReR, ReO, ReP. -/
import Derived.Test.YtgckcnnnblggbaaGreatSt44
import Derived.Test.YtgckcnnnblggbaaGreatSt29
import Derived.Test.YtgckcnnnblggbaaGreatSt30
import Derived.Test.YtgckcnnnblggbaaGreatSt35
import Derived.RangeFuncFrom
set_option linter.unusedSimpArgs false
set_option linter.unusedVariables false
/- What is handed in: steps and stops; the start: a disk of files, the program's and the document's. -/
namespace Go.Proofs.YtgckcnnnblggbaaGreat
open Go.RowKit Go.Maps

/-- a step that is handed in: its ten cells -/
def AStepAt (w : World) (b o : Nat) (x : AStep) : Prop := ∃ (da ka : Option Addr) (dc kc : Nat),
  (∀ (j : Nat) u, (encA x da dc ka kc)[j]? = some u → w.cell? ⟨b, o + j, none⟩ = some u) ∧ (da = none → dc = 0) ∧ RowAt w da (x.data.map bv) ∧ RowAt w ka (x.keep.map Value.bool)
def AStepsArg (w : World) (a : Option Addr) (xs : List AStep) : Prop := xs ≠ [] → ∃ b off, a = some ⟨b, off, none⟩ ∧ ∀ (i : Nat) x, xs[i]? = some x → AStepAt w b (off + i * 10) x
theorem AStepAt.below {w w' : World} {b o : Nat} {x : AStep} (h : AStepAt w b o x) (hb : Below w.heap.size w w') : AStepAt w' b o x := by
  obtain ⟨da, ka, dc, kc, h0, hn, hr, hk⟩ := h
  exact ⟨da, ka, dc, kc, fun j u hu => (hb.cell (p := ⟨b, o + j, none⟩) (cell_lt (h0 j u hu))).trans (h0 j u hu), hn, hr.below hb, hk.below hb⟩
theorem AStepsArg.below {w w' : World} {a : Option Addr} {xs : List AStep} (h : AStepsArg w a xs) (hb : Below w.heap.size w w') : AStepsArg w' a xs := fun hx => by
  obtain ⟨b, off, e, hc⟩ := h hx
  exact ⟨b, off, e, fun i x hi => (hc i x hi).below hb⟩
/-- a stop -/
structure AStop where
  names : Int
  keep : List Bool
  torn : Int
def AStopAt (w : World) (b o : Nat) (x : AStop) : Prop := ∃ (ka : Option Addr) (kc : Nat),
  w.cell? ⟨b, o, none⟩ = some (.int .i64 x.names) ∧ w.cell? ⟨b, o + 1, none⟩ = some (.slice ka x.keep.length kc) ∧ w.cell? ⟨b, o + 2, none⟩ = some (.int .i64 x.torn) ∧ RowAt w ka (x.keep.map Value.bool)
def AStopsArg (w : World) (a : Option Addr) (xs : List AStop) : Prop := xs ≠ [] → ∃ b off, a = some ⟨b, off, none⟩ ∧ ∀ (i : Nat) x, xs[i]? = some x → AStopAt w b (off + i * 3) x
theorem AStopsArg.below {w w' : World} {a : Option Addr} {xs : List AStop} (h : AStopsArg w a xs) (hb : Below w.heap.size w w') : AStopsArg w' a xs := fun hx => by
  obtain ⟨b, off, e, hc⟩ := h hx
  refine ⟨b, off, e, fun i x hi => ?_⟩
  obtain ⟨ka, kc, h0, h1, h2, h3⟩ := hc i x hi
  have mv : ∀ {j : Nat} {v : Value}, w.cell? ⟨b, j, none⟩ = some v → w'.cell? ⟨b, j, none⟩ = some v := fun {j v} hc => (hb.cell (p := ⟨b, j, none⟩) (cell_lt hc)).trans hc
  exact ⟨ka, kc, mv h0, mv h1, mv h2, h3.below hb⟩

/-- the disk that Of makes, if it makes one -/
noncomputable def startO (cap : Int) (L : List (List UInt8 × List UInt8)) : Option DSt := open Classical in if 0 ≤ cap ∧ cap ≤ 1099511627776 ∧ NamesGood L then some (DSt.ofFiles cap.toNat L) else none
def startE (o : Option DSt) : Int := match o with
  | none => 2
  | some _ => 0
theorem Of_no (cap : Int) (hc : cap < 0 ∨ 1099511627776 < cap) (v : Value) (w : World) (hv : ∃ a n c, v = .slice a n c) : Calls Tryz.prog 6 #[.int .i64 cap, v] w fun e w' => e = .returned (.tuple #[.pointer none, .int .i64 2]) ∧ w = w' := by
  obtain ⟨a, n, c, rfl⟩ := hv
  rcases hc with hc | hc
  · have g1 : decide (cap < 0) = true := by simpa using hc
    go_enter Tryz.func6, Tryz.ntmps6
    go_wp2_with fail
    go_ret2
    exact ⟨rfl, rfl⟩
  · have g1 : decide (cap < 0) = false := by simp; omega
    have g2 : decide (1099511627776 < cap) = true := by simpa using hc
    go_enter Tryz.func6, Tryz.ntmps6
    go_wp2_with fail
    go_ret2
    exact ⟨rfl, rfl⟩

section
variable {w : World} {cap : Int} {a : Option Addr} {c : Nat} {L : List (List UInt8 × List UInt8)}
theorem start1 (hA : FilesArg w a L) (hLn : L.length ≤ maxList) (hsz : ∀ p ∈ L, p.2.length ≤ 140737488355328) (hnm : ∀ p ∈ L, p.1.length ≤ maxLen) :
    Calls Tryz.prog 6 #[.int .i64 cap, .slice a L.length c] w fun e w' => ∃ q, e = .returned (.tuple #[.pointer q, .int .i64 (startE (startO cap L))]) ∧ HalfO (fun _ => False) w.heap.size w' q (startO cap L) ∧ Below w.heap.size w w' := by
  by_cases hc : 0 ≤ cap ∧ cap ≤ 1099511627776
  · obtain ⟨n, rfl⟩ := Int.eq_ofNat_of_zero_le hc.1
    refine (Of_any (by omega) hA hLn hsz hnm).mono fun e w' ⟨h, hb⟩ => ?_
    rcases h with ⟨hg, p, own, rfl, hd, ho⟩ | ⟨hg, rfl⟩
    · have e1 : startO (n : Int) L = some (DSt.ofFiles n L) := by unfold startO; rw [if_pos ⟨hc.1, hc.2, hg⟩, Int.toNat_natCast]
      rw [e1]
      exact ⟨_, rfl, ⟨p, own, _, rfl, hd, ho, fun b hb => .inr hb.1⟩, hb⟩
    · have e1 : startO (n : Int) L = none := by unfold startO; rw [if_neg (fun h => hg h.2.2)]
      rw [e1]
      exact ⟨_, rfl, rfl, hb⟩
  · refine (Of_no cap (by omega) _ w ⟨_, _, _, rfl⟩).mono fun e w' ⟨h, hb⟩ => ?_
    subst h hb
    have e1 : startO cap L = none := by unfold startO; rw [if_neg (fun h => hc ⟨h.1, h.2.1⟩)]
    rw [e1]
    exact ⟨_, rfl, rfl, Below.refl _ _⟩
theorem start2 (hA : FilesArg w a L) (hLn : L.length ≤ maxList) (hsz : ∀ p ∈ L, p.2.length ≤ 140737488355328) (hnm : ∀ p ∈ L, p.1.length ≤ maxLen) :
    Calls Tryz.prog 7 #[.int .i64 cap, .slice a L.length c] w fun e w' => ∃ q, e = .returned (.tuple #[.pointer q, .int .i64 (startE (startO cap L))]) ∧ HalfR (fun _ => False) w.heap.size w' q (startO cap L) ∧ Below w.heap.size w w' := by
  have hmx : maxList = 4194304 := rfl
  by_cases hc : 0 ≤ cap ∧ cap ≤ 1099511627776
  · obtain ⟨n, rfl⟩ := Int.eq_ofNat_of_zero_le hc.1
    refine (rOf_any (by omega) hA (by omega) hsz hnm).mono fun e w' ⟨h, hb⟩ => ?_
    rcases h with ⟨hg, po, rfl, hpo, R, hr, hR⟩ | ⟨hg, rfl⟩
    · have e1 : startO (n : Int) L = some (DSt.ofFiles n L) := by unfold startO; rw [if_pos ⟨hc.1, hc.2, hg⟩, Int.toNat_natCast]
      rw [e1]
      exact ⟨_, rfl, ⟨po, R, rfl, hr, hpo, fun b hb => .inr (hR b hb)⟩, hb⟩
    · have e1 : startO (n : Int) L = none := by unfold startO; rw [if_neg (fun h => hg h.2.2)]
      rw [e1]
      exact ⟨_, rfl, rfl, hb⟩
  · refine (rOf_no cap (by omega) _ w ⟨_, _, _, rfl⟩).mono fun e w' ⟨h, hb⟩ => ?_
    subst h hb
    have e1 : startO cap L = none := by unfold startO; rw [if_neg (fun h => hc ⟨h.1, h.2.1⟩)]
    rw [e1]
    exact ⟨_, rfl, rfl, Below.refl _ _⟩
end
theorem startO_ok {cap : Int} {L : List (List UInt8 × List UInt8)} (hL : ∀ p ∈ L, p.2.length ≤ maxFile) : OkO (startO cap L) L.length ∧ WholeO (startO cap L) ∧ WrO (startO cap L) 0 cap.toNat := by
  unfold startO
  split
  · rename_i h
    refine ⟨fun s e => ?_, fun s e => ?_, fun s e => ?_⟩
    · cases e
      exact DSt.Ok.ofFiles (by unfold maxFile; omega) ⟨h.2.2.1, h.2.2.2, hL⟩
    · cases e; exact Whole.ofFiles _ _
    · cases e; exact ⟨Nat.le_refl _, rfl⟩
  · exact ⟨fun s e => (by cases e), fun s e => (by cases e), fun s e => (by cases e)⟩
theorem startO_cap {cap : Int} {L : List (List UInt8 × List UInt8)} (h : startO cap L ≠ none) : 0 ≤ cap := by
  unfold startO at h
  split at h
  · rename_i h1; exact h1.1
  · exact absurd rfl h

/-- a disk behind so many of the law's steps -/
noncomputable def stepsO (o : Option DSt) (xs : List AStep) (k : Nat) : Option DSt := (xs.take k).foldl stepO o
theorem stepsO_succ {o : Option DSt} {xs : List AStep} {k : Nat} {x : AStep} (hx : xs[k]? = some x) : stepsO o xs (k + 1) = stepO (stepsO o xs k) x := by
  obtain ⟨hk, hx'⟩ := List.getElem?_eq_some_iff.1 hx
  unfold stepsO
  rw [List.take_succ_eq_append_getElem hk, List.foldl_append, hx']
  rfl
theorem stepsO_ok {o : Option DSt} {N M room : Nat} (h : OkO o N) (hw : WholeO o) (hr : WrO o M room) (xs : List AStep) : ∀ k, k ≤ xs.length → OkO (stepsO o xs k) (N + k) ∧ WholeO (stepsO o xs k) ∧ WrO (stepsO o xs k) (M + k) room ∧ (stepsO o xs k = none ↔ o = none)
  | 0, _ => ⟨h, hw, hr, Iff.rfl⟩
  | k + 1, hk => by
    obtain ⟨h1, h2, h3, h4⟩ := stepsO_ok h hw hr xs k (by omega)
    rw [stepsO_succ (x := xs[k]) (by simp)]
    exact ⟨stepO_ok h1 _, stepO_whole h2 h1 _, stepO_w h3 _, (stepO_none _).trans h4⟩

end Go.Proofs.YtgckcnnnblggbaaGreat
/- One of the law's steps on both disks; small things for the laws' walks. -/
namespace Go.Proofs.YtgckcnnnblggbaaGreat
open Go.RowKit Go.Maps

theorem Chg.belowLo {O : Nat → Prop} {w w' : World} {lo : Nat} (h : Chg O w w') (hlo : lo ≤ w.heap.size) (hO : ∀ k, O k → lo ≤ k) : Below lo w w' := ⟨h.os, h.tape, h.output, h.size, fun k hk => h.block k (by omega) (fun ho => by have := hO k ho; omega)⟩
/-- one of the law's steps on both disks, which lie in blocks from lo on -/
theorem asks_law {F G : Nat → Prop} {w : World} {v1 v2 : Option Addr} {o : Option DSt} {N lo : Nat} (h : PairO F G w v1 o v2 o) {x : AStep} {da ka : Option Addr} {dc kc : Nat} (hx : x.Ok) (hrow : RowAt w da (x.data.map bv)) (hnil : da = none → dc = 0) (hdlo : ∀ y, da = some y → x.data ≠ [] → y.block < lo) (hok : OkO o N) (hN : N + 1 < maxList) (hlo : lo ≤ w.heap.size) (hF : ∀ b, F b → lo ≤ b ∧ b < w.heap.size) (hG : ∀ b, G b → lo ≤ b ∧ b < w.heap.size) :
    Calls Tryz.prog 9 #[.pointer v1, .pointer v2, .agg (encA x da dc ka kc)] w fun e w' => e = .returned (.bool true) ∧ Chg F w w' ∧ Below lo w w' ∧ ∃ F' G', PairO F' G' w' v1 (stepO o x) v2 (stepO o x) ∧ (∀ b, F' b → (F b ∨ w.heap.size ≤ b) ∧ b < w'.heap.size) ∧ (∀ b, G' b → (G b ∨ w.heap.size ≤ b) ∧ b < w'.heap.size) := by
  refine (asks_any h hx hrow hnil (fun y e hd => ⟨fun hf => by have := hdlo y e hd; have := (hF _ hf).1; omega, by have := hdlo y e hd; omega⟩) hok hN (fun b hb => (hF b hb).2) (fun b hb => (hG b hb).2)).mono ?_
  rintro e w' ⟨rfl, F', G', hP, hc, hF', hG'⟩
  refine ⟨rfl, hc, hc.belowLo hlo (fun b hb => (hF b hb).1), ?_⟩
  by_cases hn : stepO o x = none
  · rw [hn] at hP ⊢
    obtain ⟨_, _, rfl, rfl⟩ | ⟨s1, _, _, _, e, _⟩ := hP.cases
    · exact ⟨fun _ => False, fun _ => False, PairO.ofNil _ _ _, fun _ h => h.elim, fun _ h => h.elim⟩
    · cases e
  · obtain ⟨k1, k2, _⟩ := hP.lt hn
    exact ⟨F', G', hP, fun b hb => ⟨hF' b hb, k1 b hb⟩, fun b hb => ⟨hG' b hb, k2 b hb⟩⟩
theorem below_drew1 (w : World) : Below w.heap.size w w.drew := ⟨rfl, rfl, rfl, Nat.le_refl _, fun _ _ => rfl⟩
theorem rowAt_lt {w : World} {a : Option Addr} {xs : List Value} (h : RowAt w a xs) (hx : xs ≠ []) : ∀ y, a = some y → y.block < w.heap.size := fun y e => by
  obtain ⟨b, off, e2, hc⟩ := h hx
  rw [e] at e2; cases e2
  cases xs with
  | nil => exact absurd rfl hx
  | cons u r => exact cell_lt (hc 0 u rfl)
theorem bytes_lt {w : World} {a : Option Addr} {l : List UInt8} (h : RowAt w a (l.map bv)) : ∀ y, a = some y → l ≠ [] → y.block < w.heap.size := fun y e hl => rowAt_lt h (by simpa using hl) y e
theorem Tryz.info4 : (Tryz.prog.info? 4).map (fun i => (i.zero, i.size, i.bytes)) = some (some (.bool false), 1, 1) := by kernel_rfl
theorem HalfO.files {G : Nat → Prop} {lo N : Nat} {w : World} {p : Option Addr} {s : DSt} (h : HalfO G lo w p (some s)) (hok : s.Ok N) (hN : N < maxList) :
    ∃ q, p = some ⟨q, 0, none⟩ ∧ Has 0 w q s := by
  obtain ⟨q, own, R, e, hd, _⟩ := h
  exact ⟨q, e, own, R, hd, fun _ _ => Nat.zero_le _⟩

/-- as PairO.join, with room between the two -/
theorem PairO.join2 {G : Nat → Prop} {lo hi : Nat} {w0 w : World} {q1 q2 : Option Addr} {o : Option DSt} (h1 : HalfO G lo w0 q1 o) (hb : Below w0.heap.size w0 w) (h2 : HalfR G hi w q2 o) (hG : ∀ b, G b → b < lo) (hlo : lo ≤ w0.heap.size) (hhi : w0.heap.size ≤ hi) :
    ∃ F' G', PairO F' G' w q1 o q2 o ∧ (∀ b, F' b → (lo ≤ b ∧ b < w0.heap.size) ∨ (hi ≤ b ∧ b < w.heap.size)) ∧ ∀ b, G' b → (G b ∨ lo ≤ b) ∧ b < w.heap.size := by
  have h1w := h1.below hb
  have hsz := hb.size
  cases o with
  | none =>
    obtain rfl : q1 = none := h1
    obtain rfl : q2 = none := h2
    exact ⟨fun _ => False, fun _ => False, PairO.ofNil _ _ _, fun _ h => h.elim, fun _ h => h.elim⟩
  | some s =>
    obtain ⟨p, own, R, rfl, hd, ho, hR⟩ := h1
    obtain ⟨r, R2, rfl, hr, hrl, hR2⟩ := h2
    have hdw : DiskAt w p s own R := by
      obtain ⟨mf, mn, ms, fb, vs, vw, ss, ws, t, k1, rfl⟩ := hd
      exact ⟨mf, mn, ms, fb, vs, vw, ss, ws, t, k1.kept (O := fun _ => False) (Chg.of_below hb) (fun _ _ h => h) (fun _ _ h => h), rfl⟩
    refine ⟨_, _, PairO.ofTwo (F := fun b => b ∈ own ∨ b = r) (G := fun b => R b ∨ R2 b) ⟨own, R, R2, hdw, hr, fun _ => Iff.rfl, fun _ => Iff.rfl, fun hm => ?_, fun hm => ?_, fun b hm hb2 => ?_⟩, fun b hb => ?_, fun b hb => ?_⟩
    · have := hd.own_lt hm; omega
    · have := (hd.shared hm).1; omega
    · have h3 := hd.own_lt hm
      rcases hR2 b hb2 with h | h
      · have := hG b h; have := ho b hm; omega
      · omega
    · rcases hb with hb | rfl
      · exact .inl ⟨ho b hb, hd.own_lt hb⟩
      · exact .inr ⟨hrl, hr.r_lt⟩
    · rcases hb with hb | hb
      · exact ⟨hR b hb, (hdw.shared hb).1⟩
      · exact ⟨(hR2 b hb).imp id (fun h => by omega), hr.lt b hb⟩

end Go.Proofs.YtgckcnnnblggbaaGreat
/- A loop over an iterator that only makes memory between its rounds: the body may write whatever there is, but for the loop's own two blocks. -/
namespace Go.Proofs.YtgckcnnnblggbaaGreat
open Go.RowKit

section
variable {F : Fence} {n : Nat} {P : Program}
/-- an iterator that hands out all its items to a loop that always goes on, and keeps what abides new memory -/
def SeqCalm {α : Type} (F : Fence) (n : Nat) (P : Program) (g : Nat) (lb : Array Value) (encs : α → Array Value) (Kp : World → World → Prop) (S Sp : List α → Prop) (w : World) : Prop :=
  ∀ (l : Nat) (J : List α → World → Prop) (W : World), Below w.heap.size w W → (∀ s A B, J s A → A.grownBy B none → J s B) →
    (∀ pre x W1, J pre W1 → Sp (pre ++ [x]) → YieldAt F (n - 1) P l (encs x) W1 fun e W' => e = .returned (.bool true) ∧ J (pre ++ [x]) W' ∧ Kp W1 W') →
    J [] W → CallsIn F n P g (#[.func (.yield l) #[] #[]] ++ lb) W fun e W' => (∃ v, e = .returned v) ∧ ∃ xs, S xs ∧ J xs W'

theorem wpIn_rangeFunc_calm {α : Type} {g : Operand} {ps : Array Tmp} {assign body : Code} {Q : Exit → Act → World → Prop} {a : Act} {w : World}
    (hro : F.round = none) (h1 : 1 ≤ n) {gf : Nat} {lb : Array Value} (hg : a.eval g = .func (.func gf) #[] lb) (hFg : F.fn gf) (eg : ∀ args w, (callFunc gf args).run P w = .ok (.enter gf args) w)
    {encs : α → Array Value} {Kp : World → World → Prop} {S Sp : List α → Prop} {w0 : World} (hseq : SeqCalm F (n - 1) P gf lb encs Kp S Sp w0)
    (hKt : ∀ {A B C : World}, Kp A B → Kp B C → Kp A C) (hKl : ∀ (W : World) (o o' : Loop), W.heap[w.heap.size + 1]? = some (.loop o) → Kp W (W.putObj (w.heap.size + 1) (.loop o'))) (hb0 : Below w0.heap.size w0 w) (hps : ∀ x, (encs x).size = ps.size)
    (I : List α → World → Prop) (hI : ∀ s A B, I s A → A.grownBy B none → I s B) (hIl : ∀ s W (o o' : Loop), I s W → W.heap[w.heap.size + 1]? = some (.loop o) → I s (W.putObj (w.heap.size + 1) (.loop o'))) (h0 : I [] w) (a₁ : α → Act)
    (hassign : ∀ (l : Nat) (x : α) (W : World) (K : Act → World → Prop), K (a₁ x) W → assign.wpIn (F.inRound l) (n - 1 - 1) P (Exit.then K (fun _ _ _ => False)) { tmps := (ps.zip (encs x)).foldl (fun t (p, v) => t.setIfInBounds p v) a.tmps, defers := [] } W)
    (hbody : ∀ (l : Nat) (pre : List α) (x : α) (W : World), I pre W → Sp (pre ++ [x]) → w.heap.size + 1 < W.heap.size → body.wpIn (F.inRound l) (n - 1 - 1) P (fun e _ W' => e = .normal ∧ (∀ b, w.heap.size ≤ b → b ≤ w.heap.size + 1 → W'.heap[b]? = W.heap[b]?) ∧ Kp W W' ∧ I (pre ++ [x]) W') (a₁ x) W)
    (hdone : ∀ (xs : List α) (W : World), S xs → I xs W → W.heap[w.heap.size]? = some (.deferred (some [])) → Q .normal { a with defers := { target := .collected w.heap.size, args := #[] } :: a.defers } W) :
    (Code.rangeFunc g ps assign body).wpIn F n P Q a w := by
  refine wpIn_rangeFunc fun fn hfn => ?_
  rw [hro]
  let st : LoopState → Loop := fun s => { state := s, pending := none, fn, tmps := a.tmps, params := ps, assign, body, defers := w.heap.size }
  obtain ⟨V, hV⟩ : ∃ V, (w.alloc (.deferred (some []))).alloc (.loop (st .ready)) = V := ⟨_, rfl⟩
  have hVl : V.heap[w.heap.size + 1]? = some (.loop (st .ready)) := by
    have := World.alloc_heap_new (w.alloc (.deferred (some []))) (.loop (st .ready))
    rw [World.size_alloc, hV] at this; exact this
  have hVd : V.heap[w.heap.size]? = some (.deferred (some [])) := by rw [← hV]; exact (Below.heap_alloc _ _ _ (by simp)).trans (World.alloc_heap_new w _)
  have hVI : I [] V := by
    rw [← hV]
    exact hI _ _ _ (hI _ _ _ h0 (World.grownBy_alloc _ _ none)) (World.grownBy_alloc _ _ none)
  have hVb : Below w0.heap.size w0 V := by rw [← hV]; exact hb0.trans ((((Below.refl _ w).alloc (Nat.le_refl _) _).alloc (by simp) _).mono hb0.size)
  refine ⟨w.heap.size + 1, [{ target := .collected w.heap.size, args := #[] }], V, { target := .fn (.func gf) lb, args := #[.func (.yield (w.heap.size + 1)) #[] #[]] }, V, gf,
    #[.func (.yield (w.heap.size + 1)) #[] #[]] ++ lb, V, ?_, ?_, ?_, ?_, fun _ => h1, ?_⟩
  · rw [← hV]; exact run_enterLoop_outer _ _ _ _ _
  · simp only [resolve, hg]
    simp [go_sem]
  · intro f' hf'; simp [Target.leads] at hf'; subst hf'; exact hFg
  · simp [invoke, go_sem, eg]
  refine (hseq (w.heap.size + 1) (fun s W => I s W ∧ W.heap[w.heap.size + 1]? = some (.loop (st .ready)) ∧ W.heap[w.heap.size]? = some (.deferred (some []))) V hVb ?_ ?_ ⟨hVI, hVl, hVd⟩).mono ?_
  · rintro s A B ⟨i1, i2, i3⟩ hgr
    exact ⟨hI _ _ _ i1 hgr, (hgr.block _ (heap_lt i2) (by simp)).trans i2, (hgr.block _ (heap_lt i3) (by simp)).trans i3⟩
  · rintro pre x W ⟨i1, i2, i3⟩ hpre
    have hlt := heap_lt i2
    refine ⟨fn, _, assign, body, run_yield (P := P) (args := encs x) i2 (by exact hps x), roundIn_of_wpIn hfn (hassign _ x W _ ⟨_, run_beginRound i2 rfl, ?_⟩)⟩
    have j2 : (W.putObj (w.heap.size + 1) (.loop (st .busy))).heap[w.heap.size + 1]? = some (.loop (st .busy)) := World.putObj_heap_same hlt
    have j3 : (W.putObj (w.heap.size + 1) (.loop (st .busy))).heap[w.heap.size]? = some (.deferred (some [])) := (World.putObj_heap_other (by omega)).trans i3
    have jK : Kp W (W.putObj (w.heap.size + 1) (.loop (st .busy))) := hKl _ _ _ i2
    refine wpIn_mono (hbody _ pre x _ (hIl _ _ _ _ i1 i2) hpre (heap_lt j2)) ?_
    rintro e a3 W3 ⟨rfl, hsame, hK3, hI3⟩
    have m2 := (hsame (w.heap.size + 1) (by omega) (Nat.le_refl _)).trans j2
    have m3 := (hsame w.heap.size (Nat.le_refl _) (by omega)).trans j3
    exact ⟨_, _, run_endRound (P := P) none m2, rfl, ⟨hIl _ _ _ _ hI3 m2, World.putObj_heap_same (heap_lt m2), (World.putObj_heap_other (by omega)).trans m3⟩, hKt (hKt jK hK3) (hKl _ _ _ m2)⟩
  · rintro e W2 ⟨⟨v, rfl⟩, xs, hS, i1, i2, i3⟩
    exact ⟨none, _, run_endLoop (P := P) i2 (by simp [st]), hdone xs _ hS (hIl _ _ _ _ i1 i2) ((World.putObj_heap_other (by omega)).trans i3)⟩
end

end Go.Proofs.YtgckcnnnblggbaaGreat
/- All's iterator for a body that goes on with the disk: what a round keeps are the files that were told. -/
namespace Go.Proofs.YtgckcnnnblggbaaGreat
open Go.RowKit Go.Maps Go.Shelf

/-- files that were told stay as they are: blocks of files whose first cell is a text -/
def KpS (W W' : World) : Prop := W.heap.size ≤ W'.heap.size ∧ ∀ (b : Nat) cs fr s, W.heap[b]? = some (.cells cs 56 fr) → cs[0]? = some (.string s) → W'.heap[b]? = some (.cells cs 56 fr)
theorem KpS.refl (W : World) : KpS W W := ⟨Nat.le_refl _, fun _ _ _ _ h _ => h⟩
theorem KpS.trans {A B C : World} (h : KpS A B) (k : KpS B C) : KpS A C := ⟨Nat.le_trans h.1 k.1, fun b cs fr s hb hs => k.2 b cs fr s (h.2 b cs fr s hb hs) hs⟩
theorem KpS.of_below {A B : World} (h : Below A.heap.size A B) : KpS A B := ⟨h.size, fun b _ _ _ hb _ => (h.block b (heap_lt hb)).trans hb⟩
theorem KpS.of_chg {O : Nat → Prop} {A B : World} (h : Chg O A B) (hO : ∀ b cs fr s, O b → A.heap[b]? = some (.cells cs 56 fr) → cs[0]? ≠ some (.string s)) : KpS A B :=
  ⟨h.size, fun b cs fr s hb hs => h.obj hb (fun ho => hO b cs fr s ho hb hs)⟩
theorem KpS.putLoop (W : World) {l : Nat} {o : Loop} (o' : Obj) (hl : W.heap[l]? = some (.loop o)) : KpS W (W.putObj l o') :=
  ⟨by simp [World.putObj], fun b cs fr s hb _ => (World.putObj_heap_other (fun e => by subst e; rw [hl] at hb; cases hb)).trans hb⟩

set_option maxRecDepth 100000 in
set_option maxHeartbeats 4000000 in
theorem all1_calm (n : Nat) (hn : 1 ≤ n) {w : World} {a : Option Addr} {L : List (List UInt8 × List UInt8)} (hL : L.length ≤ maxList)
    (hF : ∀ W, Below w.heap.size w W → Calls Tryz.prog 14 #[.pointer a] W fun e w' => ∃ v cs, e = .returned v ∧ FilesAt w' W.heap.size (W.heap.size + 1) v cs L ∧ Below W.heap.size W w')
    {bd : Nat} (hbd : Boxed w bd 27 (.pointer a)) :
    SeqCalm Fence.wide n Tryz.prog 69 #[.pointer (some ⟨bd, 0, none⟩)] (itemA L) KpS (fun xs => xs = List.finRange L.length) (fun pre => pre <+: List.finRange L.length) w := by
  intro l J W hW hJ hY h0
  have hmx : maxList = 4194304 := rfl
  have hbx : Boxed W bd 27 (.pointer a) := (hW.block bd hbd.lt).trans hbd
  have cF := (callsIn_wide (n := n - 1)).2 (hF W hW)
  refine callsIn_of_wp Tryz.func69 rfl trivial ?_ rfl
  simp only [Tryz.ntmps69, List.size_toArray, List.length_cons, List.length_nil, Nat.reduceAdd, Nat.reduceSub, Array.replicate_succ, Array.replicate_zero, List.push_toArray, List.append_toArray, List.nil_append, List.cons_append]
  have HY := Lib.hid hY; clear hY
  have c5 := hbx.cell
  have hf31 : Fence.wide.fn 14 := trivial
  gi_wp2_with (gi_at_call 14; refine cF.mono ?_; rintro e1 W1 ⟨v, cs, rfl, hfa, hb1⟩; obtain ⟨va, vc, rfl, hat⟩ := hfa.at_)
  have hJ1 : J [] W1 := hJ [] W W1 h0 (Below.grownBy hb1)
  have hb01 := bthen hW hb1
  obtain ⟨xs, hxs⟩ : ∃ xs, xs = List.finRange L.length := ⟨_, rfl⟩
  have hlen : xs.length = L.length := by rw [hxs]; simp
  have hget : ∀ k (hk : k < L.length), xs[k]? = some ⟨k, hk⟩ := fun k hk => by rw [hxs]; exact finRange_get _ _ hk
  have hsz1 := hb01.size
  have hsz2 := hb1.size
  gi_loopw [8] (fun i wr => ∃ k : Nat, k ≤ L.length ∧ i = .int .i64 k ∧ J (xs.take k) wr ∧ KpS W1 wr) (fun i _ => L.length - (RowKit.intOf i).toNat)
  case atStart => exact ⟨0, by omega, rfl, by simpa using hJ1, KpS.refl _⟩
  case round =>
    obtain ⟨k, hk, rfl, hJs, hkp⟩ := hrel
    by_cases hlt : k < L.length
    · obtain ⟨nb, hnb⟩ : ∃ nb, L[k].1 = nb := ⟨_, rfl⟩
      obtain ⟨ln, hln⟩ : ∃ ln, L[k].2.length = ln := ⟨_, rfl⟩
      obtain ⟨g0, cur0, hva, hg0, z0, _⟩ := hat 0 L[0] (by simp)
      obtain ⟨g, cur, rfl, hg, q0, ua, uc, q1⟩ := hat k L[k] (by simp)
      obtain rfl : g = g0 := by simpa using hva
      rw [hg] at hg0
      obtain rfl : cur = cur0 := by simpa using hg0
      rw [hnb] at q0
      rw [hln] at q1
      unfold sv at q0
      have hgr := hkp.2 g _ _ _ hg z0
      have d0 := cell_of_heap hgr q0
      have d1 := cell_of_heap hgr q1
      obtain ⟨W2, hW2⟩ : ∃ W2, wr.alloc (.cells #[.string ⟨nb.toArray⟩, .slice ua ln uc] 56) = W2 := ⟨_, rfl⟩
      have hb2 : Below wr.heap.size wr W2 := by rw [← hW2]; exact below_alloc _ _
      have hbw : W2.heap[wr.heap.size]? = some (.cells #[.string ⟨nb.toArray⟩, .slice ua ln uc] 56 (0, 0)) := by rw [← hW2]; exact World.alloc_heap_new wr _
      have e0 := cell_of_heap hbw (i := 0) (v := .string ⟨nb.toArray⟩) (by rfl)
      have e1 := cell_of_heap hbw (i := 1) (v := .slice ua ln uc) (by rfl)
      have hx := hget k hlt
      have hJd : J (xs.take k) W2 := hJ _ wr W2 hJs (Below.grownBy hb2)
      have hstep : xs.take k ++ [⟨k, hlt⟩] = xs.take (k + 1) := by rw [List.take_add_one, hx]; rfl
      obtain ⟨fn, tmps, assign, body, hy, hR⟩ := HY.out _ ⟨k, hlt⟩ W2 hJd (by rw [hstep, ← hxs]; exact List.take_prefix _ _)
      rw [hstep] at hR
      simp only [itemA, Fin.getElem_fin, hnb, hln, sv] at hy
      have HST := Lib.hid hstep; clear hstep hx
      have j0 : (0 : Int) ≤ (k : Int) := by omega
      have j1 : (k : Int) < (L.length : Int) := by omega
      clear hat q0 q1 hgr hg hnb hln hg0 z0
      have HK2 := Lib.hid (KpS.of_below hb2)
      gi_wp2_with (refine hR.mono ?_; rintro e3 W3 ⟨rfl, hj3, hk3⟩)
      all_goals exact ⟨⟨k + 1, by omega, by go_num, hj3, (hkp.trans HK2.out).trans hk3⟩, by simp [RowKit.intOf]; omega⟩
    · obtain rfl : k = L.length := by omega
      gi_wp2
      go_end0
      exact ⟨⟨_, rfl⟩, _, by rw [← hxs], by rwa [List.take_of_length_le (by omega)] at hJs⟩

/-! ### no block that a disk writes holds such a file -/
theorem Two.noFile {F G : Nat → Prop} {w : World} {p r : Nat} {s1 s2 : DSt} (h : Two F G w p s1 r s2) (b : Nat) (cs : Array Value) (fr : Nat × Nat) (s : ByteArray) (hb : F b) (hh : w.heap[b]? = some (.cells cs 56 fr)) : cs[0]? ≠ some (.string s) := by
  obtain ⟨own, R, R2, ⟨mf, mn, ms, fb, vs, vw, ss, ws, e, h1, rfl⟩, ⟨vst, vla, vna, vsu, vsp, vwr, et, h2⟩, h3, _⟩ := h
  have row : ∀ {v : Value} {base size n : Nat} {xs : List Value} {t : TypeId}, w.ownsRow base t size v n xs → v.ownBlock = some b → t ≠ 56 → False := fun {v base size n xs t} hr hv ht => by
    rcases hr.2 with ⟨rfl, _⟩ | ⟨g, cap, cur, rfl, _, hg, _⟩
    · cases hv
    · cases hv
      rw [hg] at hh
      simp only [Option.some.injEq, Obj.cells.injEq] at hh
      exact ht hh.2.1
  intro hs
  rcases (h3 b).1 hb with hb | rfl
  · unfold ownL at hb
    rcases List.mem_cons.1 hb with rfl | hb
    · rw [h1.cells] at hh
      simp only [Option.some.injEq, Obj.cells.injEq] at hh
      obtain ⟨rfl, _⟩ := hh
      simp at hs
    rcases List.mem_cons.1 hb with rfl | hb
    · obtain ⟨es, c, hm, _⟩ := h1.filesM
      rw [hm] at hh; cases hh
    rcases List.mem_cons.1 hb with rfl | hb
    · obtain ⟨es, c, hm, _⟩ := h1.namesM
      rw [hm] at hh; cases hh
    rcases List.mem_append.1 hb with hb | hb
    · exact row h1.stepsR (by simpa using hb) (by decide)
    rcases List.mem_append.1 hb with hb | hb
    · exact row h1.writesR (by simpa using hb) (by decide)
    · obtain ⟨i, hi, rfl⟩ := List.getElem_of_mem hb
      have hlt : i < s1.files.length := by rw [← h1.count]; exact hi
      obtain ⟨e', vd, vs', hf, hbd, _⟩ := h1.file i fb[i] s1.files[i] (by simp) (by simp)
      rw [hf] at hh
      simp only [Option.some.injEq, Obj.cells.injEq] at hh
      obtain ⟨rfl, _⟩ := hh
      obtain ⟨a, c, rfl, _⟩ := hbd
      simp at hs
  · rw [h2.cells] at hh
    simp only [Option.some.injEq, Obj.cells.injEq] at hh
    obtain ⟨rfl, _⟩ := hh
    simp at hs
theorem PairO.notLoop {F G : Nat → Prop} {w : World} {v1 v2 : Option Addr} {o : Option DSt} (h : PairO F G w v1 o v2 o) {l : Nat} (hF : ¬ F l) (hG : ¬ G l) (o' : Obj) : PairO F G (w.putObj l o') v1 o v2 o :=
  h.kept (O := fun b => b = l) ⟨rfl, rfl, rfl, by simp [World.putObj], fun k _ hk => World.putObj_heap_other hk⟩ (fun b hb e => hF (e ▸ hb)) (fun b hb e => hG (e ▸ hb))

end Go.Proofs.YtgckcnnnblggbaaGreat
