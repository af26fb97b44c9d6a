/- Texts of this claim, one behind the other: ReK, ReR, DlJ, DlK, DlL. -/
import Derived.Test.YtgckcnnnblggbaaGreatSt44
import Derived.Test.YtgckcnnnblggbaaGreatSt29
import Derived.Test.YtgckcnnnblggbaaGreatSt30
import Derived.Test.YtgckcnnnblggbaaGreatSt32
import Derived.Handy
set_option linter.unusedSimpArgs false
set_option linter.unusedVariables false
/- What is handed in: steps and stops; the start: a disk of files, the program's and the document's. -/
namespace Go.Proofs.YtgckcnnnblggbaaGreat
open Go.RowKit Go.Maps

/-- a step that is handed in: its ten cells -/
def AStepAt (w : World) (b o : Nat) (x : AStep) : Prop := ∃ (da ka : Option Addr) (dc kc : Nat),
  (∀ (j : Nat) u, (encA x da dc ka kc)[j]? = some u → w.cell? ⟨b, o + j, none⟩ = some u) ∧ (da = none → dc = 0) ∧ RowAt w da (x.data.map bv) ∧ RowAt w ka (x.keep.map Value.bool)
def AStepsArg (w : World) (a : Option Addr) (xs : List AStep) : Prop := xs ≠ [] → ∃ b off, a = some ⟨b, off, none⟩ ∧ ∀ (i : Nat) x, xs[i]? = some x → AStepAt w b (off + i * 10) x
theorem AStepAt.below {w w' : World} {b o : Nat} {x : AStep} (h : AStepAt w b o x) (hb : Below w.heap.size w w') : AStepAt w' b o x := by
  obtain ⟨da, ka, dc, kc, h0, hn, hr, hk⟩ := h
  exact ⟨da, ka, dc, kc, fun j u hu => (hb.cell (p := ⟨b, o + j, none⟩) (cell_lt (h0 j u hu))).trans (h0 j u hu), hn, hr.below hb, hk.below hb⟩
theorem AStepsArg.below {w w' : World} {a : Option Addr} {xs : List AStep} (h : AStepsArg w a xs) (hb : Below w.heap.size w w') : AStepsArg w' a xs := fun hx => by
  obtain ⟨b, off, e, hc⟩ := h hx
  exact ⟨b, off, e, fun i x hi => (hc i x hi).below hb⟩
/-- a stop -/
structure AStop where
  names : Int
  keep : List Bool
  torn : Int
def AStopAt (w : World) (b o : Nat) (x : AStop) : Prop := ∃ (ka : Option Addr) (kc : Nat),
  w.cell? ⟨b, o, none⟩ = some (.int .i64 x.names) ∧ w.cell? ⟨b, o + 1, none⟩ = some (.slice ka x.keep.length kc) ∧ w.cell? ⟨b, o + 2, none⟩ = some (.int .i64 x.torn) ∧ RowAt w ka (x.keep.map Value.bool)
def AStopsArg (w : World) (a : Option Addr) (xs : List AStop) : Prop := xs ≠ [] → ∃ b off, a = some ⟨b, off, none⟩ ∧ ∀ (i : Nat) x, xs[i]? = some x → AStopAt w b (off + i * 3) x
theorem AStopsArg.below {w w' : World} {a : Option Addr} {xs : List AStop} (h : AStopsArg w a xs) (hb : Below w.heap.size w w') : AStopsArg w' a xs := fun hx => by
  obtain ⟨b, off, e, hc⟩ := h hx
  refine ⟨b, off, e, fun i x hi => ?_⟩
  obtain ⟨ka, kc, h0, h1, h2, h3⟩ := hc i x hi
  have mv : ∀ {j : Nat} {v : Value}, w.cell? ⟨b, j, none⟩ = some v → w'.cell? ⟨b, j, none⟩ = some v := fun {j v} hc => (hb.cell (p := ⟨b, j, none⟩) (cell_lt hc)).trans hc
  exact ⟨ka, kc, mv h0, mv h1, mv h2, h3.below hb⟩

/-- the disk that Of makes, if it makes one -/
noncomputable def startO (cap : Int) (L : List (List UInt8 × List UInt8)) : Option DSt := open Classical in if 0 ≤ cap ∧ cap ≤ 1099511627776 ∧ NamesGood L then some (DSt.ofFiles cap.toNat L) else none
def startE (o : Option DSt) : Int := match o with
  | none => 2
  | some _ => 0
theorem Of_no (cap : Int) (hc : cap < 0 ∨ 1099511627776 < cap) (v : Value) (w : World) (hv : ∃ a n c, v = .slice a n c) : Calls Tryz.prog 6 #[.int .i64 cap, v] w fun e w' => e = .returned (.tuple #[.pointer none, .int .i64 2]) ∧ w = w' := by
  obtain ⟨a, n, c, rfl⟩ := hv
  rcases hc with hc | hc
  · have g1 : decide (cap < 0) = true := by simpa using hc
    go_enter Tryz.func6, Tryz.ntmps6
    go_wp2_with fail
    go_ret2
    exact ⟨rfl, rfl⟩
  · have g1 : decide (cap < 0) = false := by simp; omega
    have g2 : decide (1099511627776 < cap) = true := by simpa using hc
    go_enter Tryz.func6, Tryz.ntmps6
    go_wp2_with fail
    go_ret2
    exact ⟨rfl, rfl⟩

section
variable {w : World} {cap : Int} {a : Option Addr} {c : Nat} {L : List (List UInt8 × List UInt8)}
theorem start1 (hA : FilesArg w a L) (hLn : L.length ≤ maxList) (hsz : ∀ p ∈ L, p.2.length ≤ 140737488355328) (hnm : ∀ p ∈ L, p.1.length ≤ maxLen) :
    Calls Tryz.prog 6 #[.int .i64 cap, .slice a L.length c] w fun e w' => ∃ q, e = .returned (.tuple #[.pointer q, .int .i64 (startE (startO cap L))]) ∧ HalfO (fun _ => False) w.heap.size w' q (startO cap L) ∧ Below w.heap.size w w' := by
  by_cases hc : 0 ≤ cap ∧ cap ≤ 1099511627776
  · obtain ⟨n, rfl⟩ := Int.eq_ofNat_of_zero_le hc.1
    refine (Of_any (by omega) hA hLn hsz hnm).mono fun e w' ⟨h, hb⟩ => ?_
    rcases h with ⟨hg, p, own, rfl, hd, ho⟩ | ⟨hg, rfl⟩
    · have e1 : startO (n : Int) L = some (DSt.ofFiles n L) := by unfold startO; rw [if_pos ⟨hc.1, hc.2, hg⟩, Int.toNat_natCast]
      rw [e1]
      exact ⟨_, rfl, ⟨p, own, _, rfl, hd, ho, fun b hb => .inr hb.1⟩, hb⟩
    · have e1 : startO (n : Int) L = none := by unfold startO; rw [if_neg (fun h => hg h.2.2)]
      rw [e1]
      exact ⟨_, rfl, rfl, hb⟩
  · refine (Of_no cap (by omega) _ w ⟨_, _, _, rfl⟩).mono fun e w' ⟨h, hb⟩ => ?_
    subst h hb
    have e1 : startO cap L = none := by unfold startO; rw [if_neg (fun h => hc ⟨h.1, h.2.1⟩)]
    rw [e1]
    exact ⟨_, rfl, rfl, Below.refl _ _⟩
theorem start2 (hA : FilesArg w a L) (hLn : L.length ≤ maxList) (hsz : ∀ p ∈ L, p.2.length ≤ 140737488355328) (hnm : ∀ p ∈ L, p.1.length ≤ maxLen) :
    Calls Tryz.prog 7 #[.int .i64 cap, .slice a L.length c] w fun e w' => ∃ q, e = .returned (.tuple #[.pointer q, .int .i64 (startE (startO cap L))]) ∧ HalfR (fun _ => False) w.heap.size w' q (startO cap L) ∧ Below w.heap.size w w' := by
  have hmx : maxList = 4194304 := rfl
  by_cases hc : 0 ≤ cap ∧ cap ≤ 1099511627776
  · obtain ⟨n, rfl⟩ := Int.eq_ofNat_of_zero_le hc.1
    refine (rOf_any (by omega) hA (by omega) hsz hnm).mono fun e w' ⟨h, hb⟩ => ?_
    rcases h with ⟨hg, po, rfl, hpo, R, hr, hR⟩ | ⟨hg, rfl⟩
    · have e1 : startO (n : Int) L = some (DSt.ofFiles n L) := by unfold startO; rw [if_pos ⟨hc.1, hc.2, hg⟩, Int.toNat_natCast]
      rw [e1]
      exact ⟨_, rfl, ⟨po, R, rfl, hr, hpo, fun b hb => .inr (hR b hb)⟩, hb⟩
    · have e1 : startO (n : Int) L = none := by unfold startO; rw [if_neg (fun h => hg h.2.2)]
      rw [e1]
      exact ⟨_, rfl, rfl, hb⟩
  · refine (rOf_no cap (by omega) _ w ⟨_, _, _, rfl⟩).mono fun e w' ⟨h, hb⟩ => ?_
    subst h hb
    have e1 : startO cap L = none := by unfold startO; rw [if_neg (fun h => hc ⟨h.1, h.2.1⟩)]
    rw [e1]
    exact ⟨_, rfl, rfl, Below.refl _ _⟩
end
theorem startO_ok {cap : Int} {L : List (List UInt8 × List UInt8)} (hL : ∀ p ∈ L, p.2.length ≤ maxFile) : OkO (startO cap L) L.length ∧ WholeO (startO cap L) ∧ WrO (startO cap L) 0 cap.toNat := by
  unfold startO
  split
  · rename_i h
    refine ⟨fun s e => ?_, fun s e => ?_, fun s e => ?_⟩
    · cases e
      exact DSt.Ok.ofFiles (by unfold maxFile; omega) ⟨h.2.2.1, h.2.2.2, hL⟩
    · cases e; exact Whole.ofFiles _ _
    · cases e; exact ⟨Nat.le_refl _, rfl⟩
  · exact ⟨fun s e => (by cases e), fun s e => (by cases e), fun s e => (by cases e)⟩
theorem startO_cap {cap : Int} {L : List (List UInt8 × List UInt8)} (h : startO cap L ≠ none) : 0 ≤ cap := by
  unfold startO at h
  split at h
  · rename_i h1; exact h1.1
  · exact absurd rfl h

/-- a disk behind so many of the law's steps -/
noncomputable def stepsO (o : Option DSt) (xs : List AStep) (k : Nat) : Option DSt := (xs.take k).foldl stepO o
theorem stepsO_succ {o : Option DSt} {xs : List AStep} {k : Nat} {x : AStep} (hx : xs[k]? = some x) : stepsO o xs (k + 1) = stepO (stepsO o xs k) x := by
  obtain ⟨hk, hx'⟩ := List.getElem?_eq_some_iff.1 hx
  unfold stepsO
  rw [List.take_succ_eq_append_getElem hk, List.foldl_append, hx']
  rfl
theorem stepsO_ok {o : Option DSt} {N M room : Nat} (h : OkO o N) (hw : WholeO o) (hr : WrO o M room) (xs : List AStep) : ∀ k, k ≤ xs.length → OkO (stepsO o xs k) (N + k) ∧ WholeO (stepsO o xs k) ∧ WrO (stepsO o xs k) (M + k) room ∧ (stepsO o xs k = none ↔ o = none)
  | 0, _ => ⟨h, hw, hr, Iff.rfl⟩
  | k + 1, hk => by
    obtain ⟨h1, h2, h3, h4⟩ := stepsO_ok h hw hr xs k (by omega)
    rw [stepsO_succ (x := xs[k]) (by simp)]
    exact ⟨stepO_ok h1 _, stepO_whole h2 h1 _, stepO_w h3 _, (stepO_none _).trans h4⟩

end Go.Proofs.YtgckcnnnblggbaaGreat
/- One of the law's steps on both disks; small things for the laws' walks. -/
namespace Go.Proofs.YtgckcnnnblggbaaGreat
open Go.RowKit Go.Maps

theorem Chg.belowLo {O : Nat → Prop} {w w' : World} {lo : Nat} (h : Chg O w w') (hlo : lo ≤ w.heap.size) (hO : ∀ k, O k → lo ≤ k) : Below lo w w' := ⟨h.os, h.tape, h.output, h.size, fun k hk => h.block k (by omega) (fun ho => by have := hO k ho; omega)⟩
/-- one of the law's steps on both disks, which lie in blocks from lo on -/
theorem asks_law {F G : Nat → Prop} {w : World} {v1 v2 : Option Addr} {o : Option DSt} {N lo : Nat} (h : PairO F G w v1 o v2 o) {x : AStep} {da ka : Option Addr} {dc kc : Nat} (hx : x.Ok) (hrow : RowAt w da (x.data.map bv)) (hnil : da = none → dc = 0) (hdlo : ∀ y, da = some y → x.data ≠ [] → y.block < lo) (hok : OkO o N) (hN : N + 1 < maxList) (hlo : lo ≤ w.heap.size) (hF : ∀ b, F b → lo ≤ b ∧ b < w.heap.size) (hG : ∀ b, G b → lo ≤ b ∧ b < w.heap.size) :
    Calls Tryz.prog 9 #[.pointer v1, .pointer v2, .agg (encA x da dc ka kc)] w fun e w' => e = .returned (.bool true) ∧ Chg F w w' ∧ Below lo w w' ∧ ∃ F' G', PairO F' G' w' v1 (stepO o x) v2 (stepO o x) ∧ (∀ b, F' b → (F b ∨ w.heap.size ≤ b) ∧ b < w'.heap.size) ∧ (∀ b, G' b → (G b ∨ w.heap.size ≤ b) ∧ b < w'.heap.size) := by
  refine (asks_any h hx hrow hnil (fun y e hd => ⟨fun hf => by have := hdlo y e hd; have := (hF _ hf).1; omega, by have := hdlo y e hd; omega⟩) hok hN (fun b hb => (hF b hb).2) (fun b hb => (hG b hb).2)).mono ?_
  rintro e w' ⟨rfl, F', G', hP, hc, hF', hG'⟩
  refine ⟨rfl, hc, hc.belowLo hlo (fun b hb => (hF b hb).1), ?_⟩
  by_cases hn : stepO o x = none
  · rw [hn] at hP ⊢
    obtain ⟨_, _, rfl, rfl⟩ | ⟨s1, _, _, _, e, _⟩ := hP.cases
    · exact ⟨fun _ => False, fun _ => False, PairO.ofNil _ _ _, fun _ h => h.elim, fun _ h => h.elim⟩
    · cases e
  · obtain ⟨k1, k2, _⟩ := hP.lt hn
    exact ⟨F', G', hP, fun b hb => ⟨hF' b hb, k1 b hb⟩, fun b hb => ⟨hG' b hb, k2 b hb⟩⟩
theorem below_drew1 (w : World) : Below w.heap.size w w.drew := ⟨rfl, rfl, rfl, Nat.le_refl _, fun _ _ => rfl⟩
theorem rowAt_lt {w : World} {a : Option Addr} {xs : List Value} (h : RowAt w a xs) (hx : xs ≠ []) : ∀ y, a = some y → y.block < w.heap.size := fun y e => by
  obtain ⟨b, off, e2, hc⟩ := h hx
  rw [e] at e2; cases e2
  cases xs with
  | nil => exact absurd rfl hx
  | cons u r => exact cell_lt (hc 0 u rfl)
theorem bytes_lt {w : World} {a : Option Addr} {l : List UInt8} (h : RowAt w a (l.map bv)) : ∀ y, a = some y → l ≠ [] → y.block < w.heap.size := fun y e hl => rowAt_lt h (by simpa using hl) y e
theorem Tryz.info4 : (Tryz.prog.info? 4).map (fun i => (i.zero, i.size, i.bytes)) = some (some (.bool false), 1, 1) := by kernel_rfl
theorem HalfO.files {G : Nat → Prop} {lo N : Nat} {w : World} {p : Option Addr} {s : DSt} (h : HalfO G lo w p (some s)) (hok : s.Ok N) (hN : N < maxList) :
    ∃ q, p = some ⟨q, 0, none⟩ ∧ Has 0 w q s := by
  obtain ⟨q, own, R, e, hd, _⟩ := h
  exact ⟨q, e, own, R, hd, fun _ _ => Nat.zero_le _⟩

/-- as PairO.join, with room between the two -/
theorem PairO.join2 {G : Nat → Prop} {lo hi : Nat} {w0 w : World} {q1 q2 : Option Addr} {o : Option DSt} (h1 : HalfO G lo w0 q1 o) (hb : Below w0.heap.size w0 w) (h2 : HalfR G hi w q2 o) (hG : ∀ b, G b → b < lo) (hlo : lo ≤ w0.heap.size) (hhi : w0.heap.size ≤ hi) :
    ∃ F' G', PairO F' G' w q1 o q2 o ∧ (∀ b, F' b → (lo ≤ b ∧ b < w0.heap.size) ∨ (hi ≤ b ∧ b < w.heap.size)) ∧ ∀ b, G' b → (G b ∨ lo ≤ b) ∧ b < w.heap.size := by
  have h1w := h1.below hb
  have hsz := hb.size
  cases o with
  | none =>
    obtain rfl : q1 = none := h1
    obtain rfl : q2 = none := h2
    exact ⟨fun _ => False, fun _ => False, PairO.ofNil _ _ _, fun _ h => h.elim, fun _ h => h.elim⟩
  | some s =>
    obtain ⟨p, own, R, rfl, hd, ho, hR⟩ := h1
    obtain ⟨r, R2, rfl, hr, hrl, hR2⟩ := h2
    have hdw : DiskAt w p s own R := by
      obtain ⟨mf, mn, ms, fb, vs, vw, ss, ws, t, k1, rfl⟩ := hd
      exact ⟨mf, mn, ms, fb, vs, vw, ss, ws, t, k1.kept (O := fun _ => False) (Chg.of_below hb) (fun _ _ h => h) (fun _ _ h => h), rfl⟩
    refine ⟨_, _, PairO.ofTwo (F := fun b => b ∈ own ∨ b = r) (G := fun b => R b ∨ R2 b) ⟨own, R, R2, hdw, hr, fun _ => Iff.rfl, fun _ => Iff.rfl, fun hm => ?_, fun hm => ?_, fun b hm hb2 => ?_⟩, fun b hb => ?_, fun b hb => ?_⟩
    · have := hd.own_lt hm; omega
    · have := (hd.shared hm).1; omega
    · have h3 := hd.own_lt hm
      rcases hR2 b hb2 with h | h
      · have := hG b h; have := ho b hm; omega
      · omega
    · rcases hb with hb | rfl
      · exact .inl ⟨ho b hb, hd.own_lt hb⟩
      · exact .inr ⟨hrl, hr.r_lt⟩
    · rcases hb with hb | hb
      · exact ⟨hR b hb, (hdw.shared hb).1⟩
      · exact ⟨(hR2 b hb).imp id (fun h => by omega), hr.lt b hb⟩

end Go.Proofs.YtgckcnnnblggbaaGreat
/- Disk: known: some of the chapter's rows. -/
namespace Go.Proofs.YtgckcnnnblggbaaGreat
open Go.RowKit Go.Maps

def kn (d : List UInt8) (ws : List Wr) (n : Nat) : DSt := ⟨6, [(d, [])], [([97], 0)], [], [.create [97] 0], ws, n⟩
theorem ok_a : nameOk [97] = true := (nameOk_true ⟨by decide, by decide, fun c hc => by simp at hc; subst hc; unfold ChOk; decide⟩).symm
theorem kn_1 : (DSt.empty 6).create [97] = (kn [] [] 1, 0) := by unfold DSt.create; rw [ok_a]; rfl
theorem kn_2 : (kn [] [] 1).create [97] = (kn [] [] 2, 8) := by unfold DSt.create; rw [ok_a]; rfl
theorem kn_3 : (kn [] [] 2).put [97] 0 [1, 2, 3] = (kn [1, 2, 3] [⟨0, false, 0, [1, 2, 3]⟩] 3, 0) := by rfl
theorem kn_4 : (kn [1, 2, 3] [⟨0, false, 0, [1, 2, 3]⟩] 3).put [97] 4 [] = (kn [1, 2, 3] [⟨0, false, 0, [1, 2, 3]⟩] 4, 2) := by rfl
theorem kn_5 : (kn [1, 2, 3] [⟨0, false, 0, [1, 2, 3]⟩] 4).put [97] 3 [4, 5, 6, 7] = (kn [1, 2, 3] [⟨0, false, 0, [1, 2, 3]⟩] 5, 5) := by rfl
theorem kn_6 : (kn [1, 2, 3] [⟨0, false, 0, [1, 2, 3]⟩] 5).stop 9 [true] 2 = DSt.ofFiles 6 [([97], [1, 2])] := by rfl
theorem kn_7 : (kn [1, 2, 3] [⟨0, false, 0, [1, 2, 3]⟩] 5).read [97] 1 9 = ([2, 3], 0) := by rfl
theorem kn_8 : (DSt.ofFiles 6 [([97], [1, 2])]).all = [([97], [1, 2])] := by rfl
theorem kn_9 : (kn [1, 2, 3] [⟨0, false, 0, [1, 2, 3]⟩] 5).room - (kn [1, 2, 3] [⟨0, false, 0, [1, 2, 3]⟩] 5).used = 3 := by rfl
theorem kn_ok1 : (kn [] [] 1).Ok 1 := by have := (DSt.Ok.empty (room := 6) (by decide) 0).create [97]; have e := kn_1; unfold DSt.empty at e; rw [e] at this; exact this
theorem kn_ok2 : (kn [] [] 2).Ok 2 := by have := kn_ok1.create [97]; rw [kn_2] at this; exact this
theorem kn_ok3 : (kn [1, 2, 3] [⟨0, false, 0, [1, 2, 3]⟩] 3).Ok 3 := by have := kn_ok2.put [97] 0 [1, 2, 3]; rw [kn_3] at this; exact this
theorem kn_ok4 : (kn [1, 2, 3] [⟨0, false, 0, [1, 2, 3]⟩] 4).Ok 4 := by have := kn_ok3.put [97] 4 []; rw [kn_4] at this; exact this
theorem kn_ok5 : (kn [1, 2, 3] [⟨0, false, 0, [1, 2, 3]⟩] 5).Ok 5 := by have := kn_ok4.put [97] 3 [4, 5, 6, 7]; rw [kn_5] at this; exact this
theorem kn_ok6 : (DSt.ofFiles 6 [([97], [1, 2])]).Ok 10 := by have := kn_ok5.stop 9 [true] 2; rw [kn_6] at this; exact this
theorem ok_a1b : nameOk [97, 46, 49, 45, 98] = true := (nameOk_true ⟨by decide, by decide, fun c hc => by
  simp only [List.mem_cons, List.not_mem_nil, or_false] at hc
  unfold ChOk
  rcases hc with rfl | rfl | rfl | rfl | rfl <;> decide⟩).symm
theorem ok_A : nameOk [65] = false := (nameOk_false (fun h => by have := h.2.2 65 (by simp); unfold ChOk at this; revert this; decide)).symm

end Go.Proofs.YtgckcnnnblggbaaGreat
/- known: contracts. -/
namespace Go.Proofs.YtgckcnnnblggbaaGreat
open Go.RowKit Go.Maps

section
variable {lo : Nat} {w : World} {p : Nat}
theorem kc_1 (h : Has lo w p (DSt.empty 6)) : Calls Tryz.prog 34 #[.pointer (some ⟨p, 0, none⟩), .string ⟨#[97]⟩] w fun e w' => e = .returned (.int .i64 0) ∧ Has lo w' p (kn [] [] 1) ∧ Below lo w w' := by
  have := h.create (k := [97]) (by decide) (N := 0) (DSt.Ok.empty (by decide) 0) (by decide)
  rw [kn_1] at this
  exact this
theorem kc_2 (h : Has lo w p (kn [] [] 1)) : Calls Tryz.prog 34 #[.pointer (some ⟨p, 0, none⟩), .string ⟨#[97]⟩] w fun e w' => e = .returned (.int .i64 8) ∧ Has lo w' p (kn [] [] 2) ∧ Below lo w w' := by
  have := h.create (k := [97]) (by decide) kn_ok1 (by decide)
  rw [kn_2] at this
  exact this
theorem kc_3 (h : Has lo w p (kn [] [] 2)) : Calls Tryz.prog 37 #[.pointer (some ⟨p, 0, none⟩), .string ⟨#[97]⟩, .int .i64 0, .slice (some ⟨w.heap.size, 0, none⟩) 3 3] (w.alloc (.cells #[.int .u8 1, .int .u8 2, .int .u8 3] 5)) fun e w' => e = .returned (.int .i64 0) ∧ Has lo w' p (kn [1, 2, 3] [⟨0, false, 0, [1, 2, 3]⟩] 3) ∧ Below lo w w' := by
  have hlo := h.lo
  have := (h.below (below_alloc w (.cells #[.int .u8 1, .int .u8 2, .int .u8 3] 5))).put (k := [97]) (by decide) (at_ := 0) (l := [1, 2, 3]) (xc := 3) (row_built w _ _) (by simp) (by decide) (by decide) kn_ok2 (by decide)
  rw [kn_3] at this
  exact this.mono fun e w' ⟨k1, k2, k3⟩ => ⟨k1, k2, ((Below.refl lo w).alloc (by omega) _).trans k3⟩
theorem kc_4 (h : Has lo w p (kn [1, 2, 3] [⟨0, false, 0, [1, 2, 3]⟩] 3)) : Calls Tryz.prog 37 #[.pointer (some ⟨p, 0, none⟩), .string ⟨#[97]⟩, .int .i64 4, .slice none 0 0] w fun e w' => e = .returned (.int .i64 2) ∧ Has lo w' p (kn [1, 2, 3] [⟨0, false, 0, [1, 2, 3]⟩] 4) ∧ Below lo w w' := by
  have := h.put (k := [97]) (by decide) (at_ := 4) (l := []) (xa := none) (xc := 0) (RowAt.nil _ _) (by simp) (by decide) (by decide) kn_ok3 (by decide)
  rw [kn_4] at this
  exact this
theorem kc_5 (h : Has lo w p (kn [1, 2, 3] [⟨0, false, 0, [1, 2, 3]⟩] 4)) : Calls Tryz.prog 37 #[.pointer (some ⟨p, 0, none⟩), .string ⟨#[97]⟩, .int .i64 3, .slice (some ⟨w.heap.size, 0, none⟩) 4 4] (w.alloc (.cells #[.int .u8 4, .int .u8 5, .int .u8 6, .int .u8 7] 5)) fun e w' => e = .returned (.int .i64 5) ∧ Has lo w' p (kn [1, 2, 3] [⟨0, false, 0, [1, 2, 3]⟩] 5) ∧ Below lo w w' := by
  have hlo := h.lo
  have := (h.below (below_alloc w (.cells #[.int .u8 4, .int .u8 5, .int .u8 6, .int .u8 7] 5))).put (k := [97]) (by decide) (at_ := 3) (l := [4, 5, 6, 7]) (xc := 4) (row_built w _ _) (by simp) (by decide) (by decide) kn_ok4 (by decide)
  rw [kn_5] at this
  exact this.mono fun e w' ⟨k1, k2, k3⟩ => ⟨k1, k2, ((Below.refl lo w).alloc (by omega) _).trans k3⟩
theorem kc_6 (h : Has lo w p (kn [1, 2, 3] [⟨0, false, 0, [1, 2, 3]⟩] 5)) : Calls Tryz.prog 10 #[.pointer (some ⟨p, 0, none⟩), .agg #[.int .i64 9, .slice (some ⟨w.heap.size, 0, none⟩) 1 1, .int .i64 2]] (w.alloc (.cells #[.bool true] 4)) fun e w' => ∃ po, e = .returned (.pointer (some ⟨po, 0, none⟩)) ∧ Has w.heap.size w' po (DSt.ofFiles 6 [([97], [1, 2])]) ∧ Below w.heap.size w w' := by
  have := (h.below (below_alloc w (.cells #[.bool true] 4))).stop (names := 9) (torn := 2) (keep := [true]) (kc := 1) (by decide) (row_built w _ _) (by decide) kn_ok5 (by decide)
  rw [kn_6] at this
  exact this.mono fun e w' ⟨po, k1, ⟨own, R, k2, k2'⟩, k3⟩ => ⟨po, k1, ⟨own, R, k2, fun b hb => by have := k2' b hb; rw [World.size_alloc] at this; omega⟩, ((below_alloc w _).trans (k3.mono (by simp)))⟩
theorem kc_7 (h : Has lo w p (kn [1, 2, 3] [⟨0, false, 0, [1, 2, 3]⟩] 5)) : Calls Tryz.prog 65 #[.pointer (some ⟨p, 0, none⟩)] w fun e w' => e = .returned (.int .i64 3) ∧ Below w.heap.size w w' := by
  have := h.room kn_ok5 (by decide)
  rw [kn_9] at this
  exact this
theorem kc_8 (h : Has lo w p (DSt.ofFiles 6 [([97], [1, 2])])) : Calls Tryz.prog 14 #[.pointer (some ⟨p, 0, none⟩)] w fun e w' => ∃ a c, e = .returned (.slice a 1 c) ∧ FilesRd w' a [([97], [1, 2])] ∧ Below w.heap.size w w' := by
  have := h.files kn_ok6 (by decide)
  rw [kn_8] at this
  exact this.mono fun e w' ⟨v, cs, k1, k2, k3⟩ => by
    obtain ⟨a, c, rfl, hr⟩ := FilesRd.of_at k2
    exact ⟨a, c, k1, hr, k3⟩
theorem kc_9 (h : Has lo w p (kn [1, 2, 3] [⟨0, false, 0, [1, 2, 3]⟩] 5)) : Calls Tryz.prog 51 #[.pointer (some ⟨p, 0, none⟩), .string ⟨#[97]⟩, .int .i64 1, .int .i64 9] w fun e w' => ∃ a c, e = .returned (.tuple #[.slice a 2 c, .int .i64 0]) ∧ RowAt w' a [bv 2, bv 3] ∧ Below w.heap.size w w' := by
  have := h.read (k := [97]) (by decide) (at_ := 1) (n := 9) (by decide) kn_ok5 (by decide)
  rw [kn_7] at this
  exact this.mono fun e w' ⟨U, k1, k2, k3⟩ => by
    obtain ⟨a, c, rfl, _, _, hr, _⟩ := k2
    exact ⟨a, c, k1, hr, k3⟩
theorem kc_F {a : Option Addr} {c : Nat} (h : FilesRd w a [([97], [1, 2])]) : Calls Tryz.prog 13 #[.slice a 1 c, .slice (some ⟨w.heap.size + 1, 0, none⟩) 1 1]
    ((w.alloc (.cells #[.int .u8 1, .int .u8 2] 5)).alloc (.cells #[.string ⟨#[97]⟩, .slice (some ⟨w.heap.size, 0, none⟩) 2 2] 56)) fun e w' => e = .returned (.bool true) ∧ Below w.heap.size w w' := by
  have hb : Below w.heap.size w ((w.alloc (.cells #[.int .u8 1, .int .u8 2] 5)).alloc (.cells #[.string ⟨#[97]⟩, .slice (some ⟨w.heap.size, 0, none⟩) 2 2] 56)) := (below_alloc w _).alloc (by simp) _
  have h2 : FilesRd ((w.alloc (.cells #[.int .u8 1, .int .u8 2] 5)).alloc (.cells #[.string ⟨#[97]⟩, .slice (some ⟨w.heap.size, 0, none⟩) 2 2] 56)) (some ⟨w.heap.size + 1, 0, none⟩) [([97], [1, 2])] := fun _ => by
    have hr := (row_built w #[.int .u8 1, .int .u8 2] 5).below (below_alloc (w.alloc (.cells #[.int .u8 1, .int .u8 2] 5)) (.cells #[.string ⟨#[97]⟩, .slice (some ⟨w.heap.size, 0, none⟩) 2 2] 56))
    have c0 := cell_new (w.alloc (.cells #[.int .u8 1, .int .u8 2] 5)) #[.string ⟨#[97]⟩, .slice (some ⟨w.heap.size, 0, none⟩) 2 2] 56 0 _ rfl
    have c1 := cell_new (w.alloc (.cells #[.int .u8 1, .int .u8 2] 5)) #[.string ⟨#[97]⟩, .slice (some ⟨w.heap.size, 0, none⟩) 2 2] 56 1 _ rfl
    rw [World.size_alloc] at c0 c1
    refine ⟨w.heap.size + 1, 0, rfl, fun i d hd => ?_⟩
    cases i with
    | zero =>
      obtain rfl : d = ([97], [1, 2]) := by simpa using hd.symm
      exact ⟨c0, _, _, c1, hr⟩
    | succ i => simp at hd
  exact (SameFiles_any (h.below hb) h2 (by decide)).mono fun e w' ⟨k1, k2⟩ => ⟨k1, hb.trans (k2.mono (by simp; omega))⟩
theorem kc_N1 : Calls Tryz.prog 29 #[.string ⟨#[97, 46, 49, 45, 98]⟩] w fun e w' => e = .returned (.bool true) ∧ w = w' := by
  have := Name_any [97, 46, 49, 45, 98] w (by decide)
  rw [ok_a1b] at this
  exact this
theorem kc_N2 : Calls Tryz.prog 29 #[.string ⟨#[65]⟩] w fun e w' => e = .returned (.bool false) ∧ w = w' := by
  have := Name_any [65] w (by decide)
  rw [ok_A] at this
  exact this
end

end Go.Proofs.YtgckcnnnblggbaaGreat
/- Disk: known, walked. -/
namespace Go.Proofs.YtgckcnnnblggbaaGreat
open Go.RowKit Go.Maps
set_option maxRecDepth 100000 in
set_option maxHeartbeats 1000000 in
theorem known_any (w : World) : Calls Tryz.prog 16 #[] w fun e w' => e = .returned (.bool true) ∧ Below w.heap.size w w' := by
  have c0 := Has.new (cap := 6) (by decide) w
  have cN := num_any
  go_enter Tryz.func16, Tryz.ntmps16
  go_wp2_with (first
    | (go_at_call 8; refine (cN _ _).mono ?_; rintro _ wn ⟨rfl, rfl⟩)
    | (go_at_call 51; refine (kc_9 HDc).mono ?_; rintro _ wd ⟨ra, rc, rfl, hrr, BD⟩
       have hcv1 : (convert 36 9 (.slice ra 2 rc)).run Tryz.prog wd = .ok (.string ⟨#[2, 3]⟩) wd := run_conv (P := Tryz.prog) 36 9 5 Tryz.underlying36 Tryz.underlying5 Tryz.underlying9 (c := rc) (l := [2, 3]) hrr
       have hcv2 : (convert 36 9 (.slice (some ⟨wd.heap.size, 0, none⟩) 2 2)).run Tryz.prog (wd.alloc (.cells #[.int .u8 2, .int .u8 3] 5)) = .ok (.string ⟨#[2, 3]⟩) (wd.alloc (.cells #[.int .u8 2, .int .u8 3] 5)) := run_conv (P := Tryz.prog) 36 9 5 Tryz.underlying36 Tryz.underlying5 Tryz.underlying9 (c := 2) (l := [2, 3]) (row_built wd #[.int .u8 2, .int .u8 3] _))
    | (go_at_call 29; with_reducible refine kc_N1.mono ?_; rintro _ we ⟨rfl, rfl⟩)
    | (go_at_call 29; with_reducible refine kc_N2.mono ?_; rintro _ we ⟨rfl, rfl⟩)
    | (go_at_call 13; refine (kc_F hfr).mono ?_; rintro _ wc ⟨rfl, BC⟩; have HDc := ((HD8.below BA).below BB).below BC)
    | (go_at_call 14; refine (kc_8 HS).mono ?_; rintro _ wb ⟨fa, fc, rfl, hfr, BB⟩)
    | (go_at_call 65; refine (kc_7 HD8).mono ?_; rintro _ wa ⟨rfl, BA⟩; have HS := HS8.below BA)
    | (go_at_call 64; refine HD8.steps.mono ?_; rintro _ w9 ⟨rfl, rfl⟩)
    | (go_at_call 10; refine (kc_6 H7).mono ?_; rintro _ w8 ⟨po, rfl, HS8, B7⟩; have HD8 := H7.below B7)
    | (go_at_call 17; refine H5.pending.mono ?_; rintro _ w7 ⟨rfl, B6⟩; have H7 := H5.below B6)
    | (go_at_call 37; refine (kc_5 H4).mono ?_; rintro _ w6 ⟨rfl, H5, B5⟩)
    | (go_at_call 37; refine (kc_4 H3).mono ?_; rintro _ w5 ⟨rfl, H4, B4⟩)
    | (go_at_call 37; refine (kc_3 H2).mono ?_; rintro _ w4 ⟨rfl, H3, B3⟩)
    | (go_at_call 34; refine (kc_2 H1).mono ?_; rintro _ w3 ⟨rfl, H2, B2⟩)
    | (go_at_call 34; refine (kc_1 H0).mono ?_; rintro _ w2 ⟨rfl, H1, B1⟩)
    | (go_at_call 22; refine c0.mono ?_; rintro _ w1 ⟨p, rfl, H0, B0⟩)
    )
  go_ret
  refine ⟨rfl, ?_⟩
  have k6 := ((((B0.trans B1).trans B2).trans B3).trans B4).trans B5
  have k7 := k6.trans (B6.mono k6.size)
  have k8 := k7.trans (B7.mono k7.size)
  have ka := k8.trans (BA.mono k8.size)
  have kb := ka.trans (BB.mono ka.size)
  have kc := kb.trans (BC.mono kb.size)
  have kd := kc.trans (BD.mono kc.size)
  exact kd.alloc kd.size _

end Go.Proofs.YtgckcnnnblggbaaGreat
