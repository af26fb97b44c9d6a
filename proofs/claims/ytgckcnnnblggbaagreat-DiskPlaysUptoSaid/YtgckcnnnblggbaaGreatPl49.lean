/- Texts of this claim, one behind the other: ReK, ReR, RfF. -/
import Derived.Test.YtgckcnnnblggbaaGreatPl46
import Derived.Test.YtgckcnnnblggbaaGreatSt29
import Derived.Test.YtgckcnnnblggbaaGreatSt30
import Derived.Test.YtgckcnnnblggbaaGreatPl47
import Derived.Test.YtgckcnnnblggbaaGreatPl48
import Derived.Test.YtgckcnnnblggbaaGreatSt27
set_option linter.unusedSimpArgs false
set_option linter.unusedVariables false
/- What is handed in: steps and stops; the start: a disk of files, the program's and the document's. -/
namespace Go.Proofs.YtgckcnnnblggbaaGreat
open Go.RowKit Go.Maps

/-- a step that is handed in: its ten cells -/
def AStepAt (w : World) (b o : Nat) (x : AStep) : Prop := ∃ (da ka : Option Addr) (dc kc : Nat),
  (∀ (j : Nat) u, (encA x da dc ka kc)[j]? = some u → w.cell? ⟨b, o + j, none⟩ = some u) ∧ (da = none → dc = 0) ∧ RowAt w da (x.data.map bv) ∧ RowAt w ka (x.keep.map Value.bool)
def AStepsArg (w : World) (a : Option Addr) (xs : List AStep) : Prop := xs ≠ [] → ∃ b off, a = some ⟨b, off, none⟩ ∧ ∀ (i : Nat) x, xs[i]? = some x → AStepAt w b (off + i * 10) x
theorem AStepAt.below {w w' : World} {b o : Nat} {x : AStep} (h : AStepAt w b o x) (hb : Below w.heap.size w w') : AStepAt w' b o x := by
  obtain ⟨da, ka, dc, kc, h0, hn, hr, hk⟩ := h
  exact ⟨da, ka, dc, kc, fun j u hu => (hb.cell (p := ⟨b, o + j, none⟩) (cell_lt (h0 j u hu))).trans (h0 j u hu), hn, hr.below hb, hk.below hb⟩
theorem AStepsArg.below {w w' : World} {a : Option Addr} {xs : List AStep} (h : AStepsArg w a xs) (hb : Below w.heap.size w w') : AStepsArg w' a xs := fun hx => by
  obtain ⟨b, off, e, hc⟩ := h hx
  exact ⟨b, off, e, fun i x hi => (hc i x hi).below hb⟩
/-- a stop -/
structure AStop where
  names : Int
  keep : List Bool
  torn : Int
def AStopAt (w : World) (b o : Nat) (x : AStop) : Prop := ∃ (ka : Option Addr) (kc : Nat),
  w.cell? ⟨b, o, none⟩ = some (.int .i64 x.names) ∧ w.cell? ⟨b, o + 1, none⟩ = some (.slice ka x.keep.length kc) ∧ w.cell? ⟨b, o + 2, none⟩ = some (.int .i64 x.torn) ∧ RowAt w ka (x.keep.map Value.bool)
def AStopsArg (w : World) (a : Option Addr) (xs : List AStop) : Prop := xs ≠ [] → ∃ b off, a = some ⟨b, off, none⟩ ∧ ∀ (i : Nat) x, xs[i]? = some x → AStopAt w b (off + i * 3) x
theorem AStopsArg.below {w w' : World} {a : Option Addr} {xs : List AStop} (h : AStopsArg w a xs) (hb : Below w.heap.size w w') : AStopsArg w' a xs := fun hx => by
  obtain ⟨b, off, e, hc⟩ := h hx
  refine ⟨b, off, e, fun i x hi => ?_⟩
  obtain ⟨ka, kc, h0, h1, h2, h3⟩ := hc i x hi
  have mv : ∀ {j : Nat} {v : Value}, w.cell? ⟨b, j, none⟩ = some v → w'.cell? ⟨b, j, none⟩ = some v := fun {j v} hc => (hb.cell (p := ⟨b, j, none⟩) (cell_lt hc)).trans hc
  exact ⟨ka, kc, mv h0, mv h1, mv h2, h3.below hb⟩

/-- the disk that Of makes, if it makes one -/
noncomputable def startO (cap : Int) (L : List (List UInt8 × List UInt8)) : Option DSt := open Classical in if 0 ≤ cap ∧ cap ≤ 1099511627776 ∧ NamesGood L then some (DSt.ofFiles cap.toNat L) else none
def startE (o : Option DSt) : Int := match o with
  | none => 2
  | some _ => 0
theorem Of_no (cap : Int) (hc : cap < 0 ∨ 1099511627776 < cap) (v : Value) (w : World) (hv : ∃ a n c, v = .slice a n c) : Calls Tryz.prog 6 #[.int .i64 cap, v] w fun e w' => e = .returned (.tuple #[.pointer none, .int .i64 2]) ∧ w = w' := by
  obtain ⟨a, n, c, rfl⟩ := hv
  rcases hc with hc | hc
  · have g1 : decide (cap < 0) = true := by simpa using hc
    go_enter Tryz.func6, Tryz.ntmps6
    go_wp2_with fail
    go_ret2
    exact ⟨rfl, rfl⟩
  · have g1 : decide (cap < 0) = false := by simp; omega
    have g2 : decide (1099511627776 < cap) = true := by simpa using hc
    go_enter Tryz.func6, Tryz.ntmps6
    go_wp2_with fail
    go_ret2
    exact ⟨rfl, rfl⟩

section
variable {w : World} {cap : Int} {a : Option Addr} {c : Nat} {L : List (List UInt8 × List UInt8)}
theorem start1 (hA : FilesArg w a L) (hLn : L.length ≤ maxList) (hsz : ∀ p ∈ L, p.2.length ≤ 140737488355328) (hnm : ∀ p ∈ L, p.1.length ≤ maxLen) :
    Calls Tryz.prog 6 #[.int .i64 cap, .slice a L.length c] w fun e w' => ∃ q, e = .returned (.tuple #[.pointer q, .int .i64 (startE (startO cap L))]) ∧ HalfO (fun _ => False) w.heap.size w' q (startO cap L) ∧ Below w.heap.size w w' := by
  by_cases hc : 0 ≤ cap ∧ cap ≤ 1099511627776
  · obtain ⟨n, rfl⟩ := Int.eq_ofNat_of_zero_le hc.1
    refine (Of_any (by omega) hA hLn hsz hnm).mono fun e w' ⟨h, hb⟩ => ?_
    rcases h with ⟨hg, p, own, rfl, hd, ho⟩ | ⟨hg, rfl⟩
    · have e1 : startO (n : Int) L = some (DSt.ofFiles n L) := by unfold startO; rw [if_pos ⟨hc.1, hc.2, hg⟩, Int.toNat_natCast]
      rw [e1]
      exact ⟨_, rfl, ⟨p, own, _, rfl, hd, ho, fun b hb => .inr hb.1⟩, hb⟩
    · have e1 : startO (n : Int) L = none := by unfold startO; rw [if_neg (fun h => hg h.2.2)]
      rw [e1]
      exact ⟨_, rfl, rfl, hb⟩
  · refine (Of_no cap (by omega) _ w ⟨_, _, _, rfl⟩).mono fun e w' ⟨h, hb⟩ => ?_
    subst h hb
    have e1 : startO cap L = none := by unfold startO; rw [if_neg (fun h => hc ⟨h.1, h.2.1⟩)]
    rw [e1]
    exact ⟨_, rfl, rfl, Below.refl _ _⟩
theorem start2 (hA : FilesArg w a L) (hLn : L.length ≤ maxList) (hsz : ∀ p ∈ L, p.2.length ≤ 140737488355328) (hnm : ∀ p ∈ L, p.1.length ≤ maxLen) :
    Calls Tryz.prog 7 #[.int .i64 cap, .slice a L.length c] w fun e w' => ∃ q, e = .returned (.tuple #[.pointer q, .int .i64 (startE (startO cap L))]) ∧ HalfR (fun _ => False) w.heap.size w' q (startO cap L) ∧ Below w.heap.size w w' := by
  have hmx : maxList = 4194304 := rfl
  by_cases hc : 0 ≤ cap ∧ cap ≤ 1099511627776
  · obtain ⟨n, rfl⟩ := Int.eq_ofNat_of_zero_le hc.1
    refine (rOf_any (by omega) hA (by omega) hsz hnm).mono fun e w' ⟨h, hb⟩ => ?_
    rcases h with ⟨hg, po, rfl, hpo, R, hr, hR⟩ | ⟨hg, rfl⟩
    · have e1 : startO (n : Int) L = some (DSt.ofFiles n L) := by unfold startO; rw [if_pos ⟨hc.1, hc.2, hg⟩, Int.toNat_natCast]
      rw [e1]
      exact ⟨_, rfl, ⟨po, R, rfl, hr, hpo, fun b hb => .inr (hR b hb)⟩, hb⟩
    · have e1 : startO (n : Int) L = none := by unfold startO; rw [if_neg (fun h => hg h.2.2)]
      rw [e1]
      exact ⟨_, rfl, rfl, hb⟩
  · refine (rOf_no cap (by omega) _ w ⟨_, _, _, rfl⟩).mono fun e w' ⟨h, hb⟩ => ?_
    subst h hb
    have e1 : startO cap L = none := by unfold startO; rw [if_neg (fun h => hc ⟨h.1, h.2.1⟩)]
    rw [e1]
    exact ⟨_, rfl, rfl, Below.refl _ _⟩
end
theorem startO_ok {cap : Int} {L : List (List UInt8 × List UInt8)} (hL : ∀ p ∈ L, p.2.length ≤ maxFile) : OkO (startO cap L) L.length ∧ WholeO (startO cap L) ∧ WrO (startO cap L) 0 cap.toNat := by
  unfold startO
  split
  · rename_i h
    refine ⟨fun s e => ?_, fun s e => ?_, fun s e => ?_⟩
    · cases e
      exact DSt.Ok.ofFiles (by unfold maxFile; omega) ⟨h.2.2.1, h.2.2.2, hL⟩
    · cases e; exact Whole.ofFiles _ _
    · cases e; exact ⟨Nat.le_refl _, rfl⟩
  · exact ⟨fun s e => (by cases e), fun s e => (by cases e), fun s e => (by cases e)⟩
theorem startO_cap {cap : Int} {L : List (List UInt8 × List UInt8)} (h : startO cap L ≠ none) : 0 ≤ cap := by
  unfold startO at h
  split at h
  · rename_i h1; exact h1.1
  · exact absurd rfl h

/-- a disk behind so many of the law's steps -/
noncomputable def stepsO (o : Option DSt) (xs : List AStep) (k : Nat) : Option DSt := (xs.take k).foldl stepO o
theorem stepsO_succ {o : Option DSt} {xs : List AStep} {k : Nat} {x : AStep} (hx : xs[k]? = some x) : stepsO o xs (k + 1) = stepO (stepsO o xs k) x := by
  obtain ⟨hk, hx'⟩ := List.getElem?_eq_some_iff.1 hx
  unfold stepsO
  rw [List.take_succ_eq_append_getElem hk, List.foldl_append, hx']
  rfl
theorem stepsO_ok {o : Option DSt} {N M room : Nat} (h : OkO o N) (hw : WholeO o) (hr : WrO o M room) (xs : List AStep) : ∀ k, k ≤ xs.length → OkO (stepsO o xs k) (N + k) ∧ WholeO (stepsO o xs k) ∧ WrO (stepsO o xs k) (M + k) room ∧ (stepsO o xs k = none ↔ o = none)
  | 0, _ => ⟨h, hw, hr, Iff.rfl⟩
  | k + 1, hk => by
    obtain ⟨h1, h2, h3, h4⟩ := stepsO_ok h hw hr xs k (by omega)
    rw [stepsO_succ (x := xs[k]) (by simp)]
    exact ⟨stepO_ok h1 _, stepO_whole h2 h1 _, stepO_w h3 _, (stepO_none _).trans h4⟩

end Go.Proofs.YtgckcnnnblggbaaGreat
/- One of the law's steps on both disks; small things for the laws' walks. -/
namespace Go.Proofs.YtgckcnnnblggbaaGreat
open Go.RowKit Go.Maps

theorem Chg.belowLo {O : Nat → Prop} {w w' : World} {lo : Nat} (h : Chg O w w') (hlo : lo ≤ w.heap.size) (hO : ∀ k, O k → lo ≤ k) : Below lo w w' := ⟨h.os, h.tape, h.output, h.size, fun k hk => h.block k (by omega) (fun ho => by have := hO k ho; omega)⟩
/-- one of the law's steps on both disks, which lie in blocks from lo on -/
theorem asks_law {F G : Nat → Prop} {w : World} {v1 v2 : Option Addr} {o : Option DSt} {N lo : Nat} (h : PairO F G w v1 o v2 o) {x : AStep} {da ka : Option Addr} {dc kc : Nat} (hx : x.Ok) (hrow : RowAt w da (x.data.map bv)) (hnil : da = none → dc = 0) (hdlo : ∀ y, da = some y → x.data ≠ [] → y.block < lo) (hok : OkO o N) (hN : N + 1 < maxList) (hlo : lo ≤ w.heap.size) (hF : ∀ b, F b → lo ≤ b ∧ b < w.heap.size) (hG : ∀ b, G b → lo ≤ b ∧ b < w.heap.size) :
    Calls Tryz.prog 9 #[.pointer v1, .pointer v2, .agg (encA x da dc ka kc)] w fun e w' => e = .returned (.bool true) ∧ Chg F w w' ∧ Below lo w w' ∧ ∃ F' G', PairO F' G' w' v1 (stepO o x) v2 (stepO o x) ∧ (∀ b, F' b → (F b ∨ w.heap.size ≤ b) ∧ b < w'.heap.size) ∧ (∀ b, G' b → (G b ∨ w.heap.size ≤ b) ∧ b < w'.heap.size) := by
  refine (asks_any h hx hrow hnil (fun y e hd => ⟨fun hf => by have := hdlo y e hd; have := (hF _ hf).1; omega, by have := hdlo y e hd; omega⟩) hok hN (fun b hb => (hF b hb).2) (fun b hb => (hG b hb).2)).mono ?_
  rintro e w' ⟨rfl, F', G', hP, hc, hF', hG'⟩
  refine ⟨rfl, hc, hc.belowLo hlo (fun b hb => (hF b hb).1), ?_⟩
  by_cases hn : stepO o x = none
  · rw [hn] at hP ⊢
    obtain ⟨_, _, rfl, rfl⟩ | ⟨s1, _, _, _, e, _⟩ := hP.cases
    · exact ⟨fun _ => False, fun _ => False, PairO.ofNil _ _ _, fun _ h => h.elim, fun _ h => h.elim⟩
    · cases e
  · obtain ⟨k1, k2, _⟩ := hP.lt hn
    exact ⟨F', G', hP, fun b hb => ⟨hF' b hb, k1 b hb⟩, fun b hb => ⟨hG' b hb, k2 b hb⟩⟩
theorem below_drew1 (w : World) : Below w.heap.size w w.drew := ⟨rfl, rfl, rfl, Nat.le_refl _, fun _ _ => rfl⟩
theorem rowAt_lt {w : World} {a : Option Addr} {xs : List Value} (h : RowAt w a xs) (hx : xs ≠ []) : ∀ y, a = some y → y.block < w.heap.size := fun y e => by
  obtain ⟨b, off, e2, hc⟩ := h hx
  rw [e] at e2; cases e2
  cases xs with
  | nil => exact absurd rfl hx
  | cons u r => exact cell_lt (hc 0 u rfl)
theorem bytes_lt {w : World} {a : Option Addr} {l : List UInt8} (h : RowAt w a (l.map bv)) : ∀ y, a = some y → l ≠ [] → y.block < w.heap.size := fun y e hl => rowAt_lt h (by simpa using hl) y e
theorem Tryz.info4 : (Tryz.prog.info? 4).map (fun i => (i.zero, i.size, i.bytes)) = some (some (.bool false), 1, 1) := by kernel_rfl
theorem HalfO.files {G : Nat → Prop} {lo N : Nat} {w : World} {p : Option Addr} {s : DSt} (h : HalfO G lo w p (some s)) (hok : s.Ok N) (hN : N < maxList) :
    ∃ q, p = some ⟨q, 0, none⟩ ∧ Has 0 w q s := by
  obtain ⟨q, own, R, e, hd, _⟩ := h
  exact ⟨q, e, own, R, hd, fun _ _ => Nat.zero_le _⟩

/-- as PairO.join, with room between the two -/
theorem PairO.join2 {G : Nat → Prop} {lo hi : Nat} {w0 w : World} {q1 q2 : Option Addr} {o : Option DSt} (h1 : HalfO G lo w0 q1 o) (hb : Below w0.heap.size w0 w) (h2 : HalfR G hi w q2 o) (hG : ∀ b, G b → b < lo) (hlo : lo ≤ w0.heap.size) (hhi : w0.heap.size ≤ hi) :
    ∃ F' G', PairO F' G' w q1 o q2 o ∧ (∀ b, F' b → (lo ≤ b ∧ b < w0.heap.size) ∨ (hi ≤ b ∧ b < w.heap.size)) ∧ ∀ b, G' b → (G b ∨ lo ≤ b) ∧ b < w.heap.size := by
  have h1w := h1.below hb
  have hsz := hb.size
  cases o with
  | none =>
    obtain rfl : q1 = none := h1
    obtain rfl : q2 = none := h2
    exact ⟨fun _ => False, fun _ => False, PairO.ofNil _ _ _, fun _ h => h.elim, fun _ h => h.elim⟩
  | some s =>
    obtain ⟨p, own, R, rfl, hd, ho, hR⟩ := h1
    obtain ⟨r, R2, rfl, hr, hrl, hR2⟩ := h2
    have hdw : DiskAt w p s own R := by
      obtain ⟨mf, mn, ms, fb, vs, vw, ss, ws, t, k1, rfl⟩ := hd
      exact ⟨mf, mn, ms, fb, vs, vw, ss, ws, t, k1.kept (O := fun _ => False) (Chg.of_below hb) (fun _ _ h => h) (fun _ _ h => h), rfl⟩
    refine ⟨_, _, PairO.ofTwo (F := fun b => b ∈ own ∨ b = r) (G := fun b => R b ∨ R2 b) ⟨own, R, R2, hdw, hr, fun _ => Iff.rfl, fun _ => Iff.rfl, fun hm => ?_, fun hm => ?_, fun b hm hb2 => ?_⟩, fun b hb => ?_, fun b hb => ?_⟩
    · have := hd.own_lt hm; omega
    · have := (hd.shared hm).1; omega
    · have h3 := hd.own_lt hm
      rcases hR2 b hb2 with h | h
      · have := hG b h; have := ho b hm; omega
      · omega
    · rcases hb with hb | rfl
      · exact .inl ⟨ho b hb, hd.own_lt hb⟩
      · exact .inr ⟨hrl, hr.r_lt⟩
    · rcases hb with hb | hb
      · exact ⟨hR b hb, (hdw.shared hb).1⟩
      · exact ⟨(hR2 b hb).imp id (fun h => by omega), hr.lt b hb⟩

end Go.Proofs.YtgckcnnnblggbaaGreat
/- Disks without files, copies side by side; three pairs of disks in two arrays, apart. -/
namespace Go.Proofs.YtgckcnnnblggbaaGreat
open Go.RowKit Go.Maps

theorem startO_nil (cap : Nat) (h : cap ≤ 1099511627776) : startO (cap : Int) [] = some (DSt.empty cap) := by
  unfold startO
  rw [if_pos ⟨by omega, by omega, NamesGood.nil⟩, Int.toNat_natCast]
  rfl
theorem startO_no (cap : Int) (L : List (List UInt8 × List UInt8)) (h : cap < 0 ∨ 1099511627776 < cap) : startO cap L = none := by
  unfold startO
  rw [if_neg (fun k => by have := k.1; have := k.2.1; omega)]
theorem new1 (cap : Int) (w : World) : Calls Tryz.prog 22 #[.int .i64 cap] w fun e w' => ∃ q, e = .returned (.tuple #[.pointer q, .int .i64 (startE (startO cap []))]) ∧ HalfO (fun _ => False) w.heap.size w' q (startO cap []) ∧ Below w.heap.size w w' := by
  by_cases hc : 0 ≤ cap ∧ cap ≤ 1099511627776
  · obtain ⟨n, rfl⟩ := Int.eq_ofNat_of_zero_le hc.1
    refine (new_any (cap := n) (by omega) w).mono fun e w' ⟨p, own, h1, h2, h3, h4⟩ => ?_
    rw [startO_nil n (by omega)]
    exact ⟨_, h1, ⟨p, own, _, rfl, h2, h3, fun b hb => .inr hb.1⟩, h4⟩
  · refine (new_bad (cap := cap) (by omega) w).mono fun e w' ⟨h1, h2⟩ => ?_
    rw [startO_no cap [] (by omega)]
    subst h2
    exact ⟨_, h1, rfl, Below.refl _ _⟩
theorem new2 (cap : Int) (w : World) : Calls Tryz.prog 23 #[.int .i64 cap] w fun e w' => ∃ q, e = .returned (.tuple #[.pointer q, .int .i64 (startE (startO cap []))]) ∧ HalfR (fun _ => False) w.heap.size w' q (startO cap []) ∧ Below w.heap.size w w' := by
  by_cases hc : 0 ≤ cap ∧ cap ≤ 1099511627776
  · obtain ⟨n, rfl⟩ := Int.eq_ofNat_of_zero_le hc.1
    refine (rNew_yes n (by omega) w).mono fun e w' ⟨h1, h2⟩ => ?_
    rw [startO_nil n (by omega)]
    subst h2
    refine ⟨_, h1, ⟨w.heap.size, fun _ => False, rfl, ⟨_, _, _, _, _, _, _, {
      cells := World.alloc_heap_new w _
      stands := ⟨[], World.ownsRow_nil _ _ _ _, fun i x b h => by simp at h, fun b h => by cases h⟩
      lasts := ⟨[], World.ownsRow_nil _ _ _ _, fun i x b h => by simp at h, fun b h => by cases h⟩
      names := NamedIn.nil _ _
      sure := NamedIn.nil _ _
      steps := ⟨World.ownsRow_nil _ _ _ _, fun b h => by cases h⟩
      writes := ⟨[], rfl, World.ownsRow_nil _ _ _ _, fun i u x h => by simp at h, fun b h => by cases h⟩
      rOut := fun h => h
      rLt := fun b h => h.elim }⟩, Nat.le_refl _, fun b h => h.elim⟩, below_alloc _ _⟩
  · refine (rNew_no cap (by omega) w).mono fun e w' ⟨h1, h2⟩ => ?_
    rw [startO_no cap [] (by omega)]
    subst h2
    exact ⟨_, h1, rfl, Below.refl _ _⟩
section
variable {F G : Nat → Prop} {w : World} {v1 v2 : Option Addr} {o : Option DSt} {N : Nat}
theorem PairO.copy1 (h : PairO F G w v1 o v2 o) (hok : OkO o N) (hN : N < maxList) :
    Calls Tryz.prog 27 #[.pointer v1] w fun e w' => ∃ q, e = .returned (.pointer q) ∧ HalfO G w.heap.size w' q o ∧ Below w.heap.size w w' := by
  obtain ⟨rfl, _, rfl, rfl⟩ | ⟨s1, s2, p, r, rfl, rfl', rfl, rfl, ht⟩ := h.cases
  · exact (Copy_nil (.inl rfl)).mono fun e w' ⟨k1, k2⟩ => ⟨none, k1, rfl, k2⟩
  · obtain ⟨own, R, R2, ⟨mf, mn, ms, fb, vs, vw, ss, ws, e, h1, rfl⟩, h2, h3, h4, h5, h6, h7⟩ := ht
    exact (Copy_any h1 (hok _ rfl) hN).mono fun e w' ⟨po, own', k1, k2, k3, k4⟩ => ⟨_, k1, ⟨po, own', _, rfl, k2, k3, fun b hb => hb.elim (fun h => .inl ((h4 b).2 (.inl h))) (fun h => .inr h.1)⟩, k4⟩
theorem PairO.copy2 (h : PairO F G w v1 o v2 o) :
    Calls Tryz.prog 28 #[.pointer v2] w fun e w' => ∃ q, e = .returned (.pointer q) ∧ HalfR G w.heap.size w' q o ∧ Below w.heap.size w w' := by
  obtain ⟨rfl, _, rfl, rfl⟩ | ⟨s1, s2, p, r, rfl, e2, rfl, rfl, ht⟩ := h.cases
  · exact (rCopy_nil w).mono fun e w' ⟨k1, k2⟩ => ⟨none, k1, rfl, k2 ▸ Below.refl _ _⟩
  · cases e2
    obtain ⟨own, R, R2, h1, h2, h3, h4, h5, h6, h7⟩ := ht
    exact (rCopy_any h2).mono fun e w' ⟨po, k1, k2, k3, k5⟩ => ⟨_, k1, ⟨po, R2, rfl, k3, k2, fun b hb => .inl ((h4 b).2 (.inr hb))⟩, k5⟩
theorem PairO.isNone (h : PairO F G w v1 o v2 o) : (v1 == none) = (v2 == none) := by
  obtain ⟨_, _, rfl, rfl⟩ | ⟨_, _, p, r, _, _, rfl, rfl, _⟩ := h.cases <;> rfl
end

def upd {α : Type} (f : Nat → α) (i : Nat) (x : α) (j : Nat) : α := if j = i then x else f j
theorem upd_same {α : Type} (f : Nat → α) (i : Nat) (x : α) : upd f i x i = x := by simp [upd]
theorem upd_other {α : Type} (f : Nat → α) {i j : Nat} (x : α) (h : j ≠ i) : upd f i x j = f j := by simp [upd, h]

/-- three pairs of disks in blocks from lo on, apart; bt and br are others' -/
structure Three (lo bt br : Nat) (w : World) (l1 l2 : List (Option Addr)) (os : List (Option DSt)) (F G : Nat → Nat → Prop) : Prop where
  pair : ∀ (i : Nat) p q o, l1[i]? = some p → l2[i]? = some q → os[i]? = some o → PairO (F i) (G i) w p o q o
  ltF : ∀ i b, F i b → lo ≤ b ∧ b < w.heap.size
  ltG : ∀ i b, G i b → lo ≤ b ∧ b < w.heap.size
  apart : ∀ i j b, i ≠ j → F i b → ¬ F j b
  apartG : ∀ i j b, F i b → ¬ G j b
  outF : ∀ i b, F i b → b ≠ bt ∧ b ≠ br
  outG : ∀ i b, G i b → b ≠ bt ∧ b ≠ br
section
variable {lo bt br : Nat} {w w' : World} {l1 l2 : List (Option Addr)} {os : List (Option DSt)} {F G : Nat → Nat → Prop}
theorem Three.kept (h : Three lo bt br w l1 l2 os F G) {O : Nat → Prop} (hc : Chg O w w') (hF : ∀ i b, F i b → ¬ O b) (hG : ∀ i b, G i b → ¬ O b) : Three lo bt br w' l1 l2 os F G where
  pair := fun i p q o h1 h2 h3 => (h.pair i p q o h1 h2 h3).kept hc (hF i) (hG i)
  ltF := fun i b hb => ⟨(h.ltF i b hb).1, Nat.lt_of_lt_of_le (h.ltF i b hb).2 hc.size⟩
  ltG := fun i b hb => ⟨(h.ltG i b hb).1, Nat.lt_of_lt_of_le (h.ltG i b hb).2 hc.size⟩
  apart := h.apart
  apartG := h.apartG
  outF := h.outF
  outG := h.outG
theorem Three.below (h : Three lo bt br w l1 l2 os F G) (hb : Below w.heap.size w w') : Three lo bt br w' l1 l2 os F G := h.kept (O := fun _ => False) (Chg.of_below hb) (fun _ _ _ h => h) (fun _ _ _ h => h)
/-- a step that is done on both disks of one pair -/
theorem Three.does (h : Three lo bt br w l1 l2 os F G) {i : Nat} {p q : Option Addr} {o' : Option DSt} {F' G' : Nat → Prop} (h1 : l1[i]? = some p) (h2 : l2[i]? = some q) (hc : Chg (F i) w w') (hP : PairO F' G' w' p o' q o')
    (hF' : ∀ b, F' b → (F i b ∨ w.heap.size ≤ b) ∧ b < w'.heap.size) (hG' : ∀ b, G' b → (G i b ∨ w.heap.size ≤ b) ∧ b < w'.heap.size) (hFG : ∀ b, F' b → ¬ G' b) (hlo : lo ≤ w.heap.size) (hbt : bt < w.heap.size) (hbr : br < w.heap.size) :
    Three lo bt br w' l1 l2 (os.set i o') (upd F i F') (upd G i G') := by
  have hsz := hc.size
  refine ⟨fun j a b o ha hb ho => ?_, fun j b hb => ?_, fun j b hb => ?_, fun j k b hjk hb hk => ?_, fun j k b hb hk => ?_, fun j b hb => ?_, fun j b hb => ?_⟩
  · by_cases hj : j = i
    · subst hj
      rw [h1] at ha; cases ha
      rw [h2] at hb; cases hb
      have hlt := (List.getElem?_eq_some_iff.1 ho).1
      simp at hlt
      rw [List.getElem?_set_self hlt] at ho
      cases ho
      rw [upd_same, upd_same]
      exact hP
    · rw [List.getElem?_set_ne (fun e => hj e.symm)] at ho
      rw [upd_other _ _ hj, upd_other _ _ hj]
      exact (h.pair j a b o ha hb ho).kept hc (fun b hb hi => h.apart j i b hj hb hi) (fun b hb hi => h.apartG i j b hi hb)
  · by_cases hj : j = i
    · subst hj
      rw [upd_same] at hb
      exact ⟨(hF' b hb).1.elim (fun h1 => (h.ltF _ b h1).1) (fun h1 => by omega), (hF' b hb).2⟩
    · rw [upd_other _ _ hj] at hb
      exact ⟨(h.ltF j b hb).1, Nat.lt_of_lt_of_le (h.ltF j b hb).2 hsz⟩
  · by_cases hj : j = i
    · subst hj
      rw [upd_same] at hb
      exact ⟨(hG' b hb).1.elim (fun h1 => (h.ltG _ b h1).1) (fun h1 => by omega), (hG' b hb).2⟩
    · rw [upd_other _ _ hj] at hb
      exact ⟨(h.ltG j b hb).1, Nat.lt_of_lt_of_le (h.ltG j b hb).2 hsz⟩
  · by_cases hj : j = i
    · subst hj
      rw [upd_same] at hb
      rw [upd_other _ _ (fun e => hjk e.symm)] at hk
      rcases (hF' b hb).1 with h3 | h3
      · exact h.apart _ _ b hjk h3 hk
      · have := (h.ltF k b hk).2; omega
    · rw [upd_other _ _ hj] at hb
      by_cases hki : k = i
      · subst hki
        rw [upd_same] at hk
        rcases (hF' b hk).1 with h3 | h3
        · exact h.apart _ _ b hjk hb h3
        · have := (h.ltF j b hb).2; omega
      · rw [upd_other _ _ hki] at hk
        exact h.apart _ _ b hjk hb hk
  · by_cases hj : j = i
    · subst hj
      rw [upd_same] at hb
      by_cases hki : k = j
      · subst hki
        rw [upd_same] at hk
        exact hFG b hb hk
      · rw [upd_other _ _ hki] at hk
        rcases (hF' b hb).1 with h3 | h3
        · exact h.apartG _ _ b h3 hk
        · have := (h.ltG k b hk).2; omega
    · rw [upd_other _ _ hj] at hb
      by_cases hki : k = i
      · subst hki
        rw [upd_same] at hk
        rcases (hG' b hk).1 with h3 | h3
        · exact h.apartG _ _ b hb h3
        · have := (h.ltF j b hb).2; omega
      · rw [upd_other _ _ hki] at hk
        exact h.apartG _ _ b hb hk
  · by_cases hj : j = i
    · subst hj
      rw [upd_same] at hb
      rcases (hF' b hb).1 with h3 | h3
      · exact h.outF _ b h3
      · exact ⟨by omega, by omega⟩
    · rw [upd_other _ _ hj] at hb
      exact h.outF j b hb
  · by_cases hj : j = i
    · subst hj
      rw [upd_same] at hb
      rcases (hG' b hb).1 with h3 | h3
      · exact h.outG _ b h3
      · exact ⟨by omega, by omega⟩
    · rw [upd_other _ _ hj] at hb
      exact h.outG j b hb
/-- a new pair takes a pair's place -/
theorem Three.put (h : Three lo bt br w l1 l2 os F G) {i k : Nat} {p q : Option Addr} {o : Option DSt} {F' G' : Nat → Prop} (hP : PairO F' G' w p o q o)
    (hF' : ∀ b, F' b → ∀ j, ¬ F j b ∧ ¬ G j b) (hG' : ∀ b, G' b → G k b ∨ ∀ j, ¬ F j b) (hFG : ∀ b, F' b → ¬ G' b) (hltF : ∀ b, F' b → (lo ≤ b ∧ b < w.heap.size) ∧ b ≠ bt ∧ b ≠ br) (hltG : ∀ b, G' b → (lo ≤ b ∧ b < w.heap.size) ∧ b ≠ bt ∧ b ≠ br) :
    Three lo bt br w (l1.set i p) (l2.set i q) (os.set i o) (upd F i F') (upd G i G') := by
  refine ⟨fun j a b x ha hb ho => ?_, fun j b hb => ?_, fun j b hb => ?_, fun j k' b hjk hb hk => ?_, fun j k' b hb hk => ?_, fun j b hb => ?_, fun j b hb => ?_⟩
  · by_cases hj : j = i
    · subst hj
      have g1 := (List.getElem?_eq_some_iff.1 ha).1
      have g2 := (List.getElem?_eq_some_iff.1 hb).1
      have g3 := (List.getElem?_eq_some_iff.1 ho).1
      simp at g1 g2 g3
      rw [List.getElem?_set_self g1] at ha
      rw [List.getElem?_set_self g2] at hb
      rw [List.getElem?_set_self g3] at ho
      cases ha; cases hb; cases ho
      rw [upd_same, upd_same]
      exact hP
    · rw [List.getElem?_set_ne (fun e => hj e.symm)] at ha hb ho
      rw [upd_other _ _ hj, upd_other _ _ hj]
      exact h.pair j a b x ha hb ho
  · by_cases hj : j = i
    · subst hj; rw [upd_same] at hb; exact (hltF b hb).1
    · rw [upd_other _ _ hj] at hb; exact h.ltF j b hb
  · by_cases hj : j = i
    · subst hj; rw [upd_same] at hb; exact (hltG b hb).1
    · rw [upd_other _ _ hj] at hb; exact h.ltG j b hb
  · by_cases hj : j = i
    · subst hj
      rw [upd_same] at hb
      rw [upd_other _ _ (fun e => hjk e.symm)] at hk
      exact (hF' b hb k').1 hk
    · rw [upd_other _ _ hj] at hb
      by_cases hki : k' = i
      · subst hki
        rw [upd_same] at hk
        exact (hF' b hk j).1 hb
      · rw [upd_other _ _ hki] at hk
        exact h.apart _ _ b hjk hb hk
  · by_cases hj : j = i
    · subst hj
      rw [upd_same] at hb
      by_cases hki : k' = j
      · subst hki; rw [upd_same] at hk; exact hFG b hb hk
      · rw [upd_other _ _ hki] at hk; exact (hF' b hb k').2 hk
    · rw [upd_other _ _ hj] at hb
      by_cases hki : k' = i
      · subst hki
        rw [upd_same] at hk
        rcases hG' b hk with h3 | h3
        · exact h.apartG _ _ b hb h3
        · exact h3 j hb
      · rw [upd_other _ _ hki] at hk
        exact h.apartG _ _ b hb hk
  · by_cases hj : j = i
    · subst hj; rw [upd_same] at hb; exact (hltF b hb).2
    · rw [upd_other _ _ hj] at hb; exact h.outF j b hb
  · by_cases hj : j = i
    · subst hj; rw [upd_same] at hb; exact (hltG b hb).2
    · rw [upd_other _ _ hj] at hb; exact h.outG j b hb
end

end Go.Proofs.YtgckcnnnblggbaaGreat
