/- Texts of this claim, one behind the other: RdS, RdT. -/
import Derived.Test.YtgckcnnnblggbaaGreatSt30
import Derived.Test.YtgckcnnnblggbaaGreatSt32
import Derived.Test.YtgckcnnnblggbaaGreatSt16
set_option linter.unusedSimpArgs false
set_option linter.unusedVariables false
/- The program's disk and the document's beside it. (printed by gen/two.py) -/
namespace Go.Proofs.YtgckcnnnblggbaaGreat
open Go.RowKit Go.Maps

/-- the program's disk s1 lies at p, the document's disk s2 at r; F are the blocks that they write, G those that they read, too -/
def Two (F G : Nat → Prop) (w : World) (p : Nat) (s1 : DSt) (r : Nat) (s2 : DSt) : Prop := ∃ own R R2, DiskAt w p s1 own R ∧ RAt w r s2 R2 ∧ (∀ b, F b ↔ b ∈ own ∨ b = r) ∧ (∀ b, G b ↔ R b ∨ R2 b) ∧ r ∉ own ∧ ¬ R r ∧ ∀ b ∈ own, ¬ R2 b
/-- a step of theirs: what is written and read from now on is of the old blocks, or new -/
def Moves (F G F' G' : Nat → Prop) (w w' : World) : Prop := Chg F w w' ∧ (∀ b, F' b → F b ∨ w.heap.size ≤ b) ∧ ∀ b, G' b → G b ∨ w.heap.size ≤ b
theorem Moves.refl (F G : Nat → Prop) (w : World) : Moves F G F G w w := ⟨Chg.refl _ _, fun _ h => .inl h, fun _ h => .inl h⟩
theorem Moves.of_below {F G : Nat → Prop} {w w' : World} (hb : Below w.heap.size w w') : Moves F G F G w w' := ⟨Chg.of_below hb, fun _ h => .inl h, fun _ h => .inl h⟩
theorem Moves.trans {F G F1 G1 F2 G2 : Nat → Prop} {w w1 w2 : World} (h : Moves F G F1 G1 w w1) (k : Moves F1 G1 F2 G2 w1 w2) : Moves F G F2 G2 w w2 := by
  have hs := h.1.size
  refine ⟨h.1.trans k.1 (fun b hb hlt => ?_), fun b hb => ?_, fun b hb => ?_⟩
  · rcases h.2.1 b hb with h | h
    · exact h
    · omega
  · rcases k.2.1 b hb with h1 | h1
    · exact h.2.1 b h1
    · exact .inr (by omega)
  · rcases k.2.2 b hb with h1 | h1
    · exact h.2.2 b h1
    · exact .inr (by omega)
section
variable {F G : Nat → Prop} {w : World} {p r : Nat} {s1 s2 : DSt} {N : Nat}
theorem Two.has (h : Two F G w p s1 r s2) : Has 0 w p s1 := by
  obtain ⟨own, R, R2, h1, h2, h3, _⟩ := h
  exact ⟨own, R, h1, fun _ _ => Nat.zero_le _⟩
theorem Two.rat (h : Two F G w p s1 r s2) : ∃ R2, RAt w r s2 R2 := by
  obtain ⟨own, R, R2, h1, h2, _⟩ := h
  exact ⟨R2, h2⟩
theorem RAt.r_out {R2 : Nat → Prop} (h : RAt w r s2 R2) : ¬ R2 r := by
  obtain ⟨_, _, _, _, _, _, _, h⟩ := h; exact h.rOut
theorem RAt.lt {R2 : Nat → Prop} (h : RAt w r s2 R2) : ∀ b, R2 b → b < w.heap.size := by
  obtain ⟨_, _, _, _, _, _, _, h⟩ := h; exact h.rLt
theorem Two.lt (h : Two F G w p s1 r s2) : (∀ b, F b → b < w.heap.size) ∧ (∀ b, G b → b < w.heap.size) ∧ (∀ b, F b → ¬ G b) ∧ F p ∧ F r := by
  obtain ⟨own, R, R2, h1, h2, h3, h4, h5, h6, h7⟩ := h
  refine ⟨fun b hb => ?_, fun b hb => ?_, fun b hb hg => ?_, (h3 p).2 (.inl h1.p_mem), (h3 r).2 (.inr rfl)⟩
  · rcases (h3 b).1 hb with hb | rfl
    · exact h1.own_lt hb
    · exact h2.r_lt
  · rcases (h4 b).1 hb with hb | hb
    · exact (h1.shared hb).1
    · exact h2.lt b hb
  · rcases (h3 b).1 hb with hb | rfl
    · rcases (h4 b).1 hg with hg | hg
      · exact (h1.shared hg).2 hb
      · exact h7 b hb hg
    · rcases (h4 b).1 hg with hg | hg
      · exact h6 hg
      · exact h2.r_out hg
theorem Two.kept (h : Two F G w p s1 r s2) {O : Nat → Prop} {w' : World} (hc : Chg O w w') (hF : ∀ b, F b → ¬ O b) (hG : ∀ b, G b → ¬ O b) : Two F G w' p s1 r s2 := by
  obtain ⟨own, R, R2, h1, h2, h3, h4, h5, h6, h7⟩ := h
  refine ⟨own, R, R2, ?_, h2.kept hc (fun b hb => hG b ((h4 b).2 (.inr hb))) (hF r ((h3 r).2 (.inr rfl))), h3, h4, h5, h6, h7⟩
  obtain ⟨mf, mn, ms, fb, vs, vw, ss, ws, e, h1, rfl⟩ := h1
  exact ⟨mf, mn, ms, fb, vs, vw, ss, ws, e, h1.kept hc (fun b hb => hG b ((h4 b).2 (.inl hb))) (fun b hb => hF b ((h3 b).2 (.inl hb))), rfl⟩
theorem Two.below (h : Two F G w p s1 r s2) {w' : World} (hb : Below w.heap.size w w') : Two F G w' p s1 r s2 := h.kept (O := fun _ => False) (Chg.of_below hb) (fun _ _ h => h) (fun _ _ h => h)
theorem Two.turn1 {w' : World} {s1' : DSt} {own : List Nat} {R R2 : Nat → Prop} (h1 : DiskAt w p s1 own R) (h2 : RAt w r s2 R2) (h3 : ∀ b, F b ↔ b ∈ own ∨ b = r) (h4 : ∀ b, G b ↔ R b ∨ R2 b) (h5 : r ∉ own) (h6 : ¬ R r) (h7 : ∀ b ∈ own, ¬ R2 b) (ht : Turns w w' p s1' own R) : ∃ F' G', Two F' G' w' p s1' r s2 ∧ Moves F G F' G' w w' := by
  have hrl := h2.r_lt
  obtain ⟨own', k1, k2, k3⟩ := ht
  have hR2 := h2.lt
  refine ⟨fun b => b ∈ own' ∨ b = r, fun b => RNew R w w' own' b ∨ R2 b, ⟨own', _, R2, k1, h2.kept k2 (fun b hb hm => h7 b hm hb) h5, fun _ => Iff.rfl, fun _ => Iff.rfl, fun hm => ?_, fun hm => ?_, fun b hb hr => ?_⟩, k2.mono (fun b hb _ => (h3 b).2 (.inl hb)), fun b hb => ?_, fun b hb => ?_⟩
  · rcases k3 r hm with h | h
    · exact h5 h
    · omega
  · rcases hm with h | h
    · exact h6 h
    · omega
  · have := hR2 b hr
    rcases k3 b hb with h | h
    · exact h7 b h hr
    · omega
  · rcases hb with hb | hb
    · rcases k3 b hb with h | h
      · exact .inl ((h3 b).2 (.inl h))
      · exact .inr h
    · exact .inl ((h3 b).2 (.inr hb))
  · rcases hb with (hb | hb) | hb
    · exact .inl ((h4 b).2 (.inl hb))
    · exact .inr hb.1
    · exact .inl ((h4 b).2 (.inr hb))
theorem Two.turn2 {w' : World} {s2' : DSt} {own : List Nat} {R R2 : Nat → Prop} (h1 : DiskAt w p s1 own R) (h2 : RAt w r s2 R2) (h3 : ∀ b, F b ↔ b ∈ own ∨ b = r) (h4 : ∀ b, G b ↔ R b ∨ R2 b) (h5 : r ∉ own) (h6 : ¬ R r) (h7 : ∀ b ∈ own, ¬ R2 b) (ht : RTurns w w' r s2' R2) : ∃ F' G', Two F' G' w' p s1 r s2' ∧ Moves F G F' G' w w' := by
  obtain ⟨k1, k2⟩ := ht
  refine ⟨F, fun b => R b ∨ RMore R2 w w' b, ⟨own, R, _, ?_, k1, h3, fun _ => Iff.rfl, h5, h6, fun b hb hr => ?_⟩, k2.mono (fun b hb _ => (h3 b).2 (.inr hb)), fun b hb => .inl hb, fun b hb => ?_⟩
  · obtain ⟨mf, mn, ms, fb, vs, vw, ss, ws, e, h1, rfl⟩ := h1
    exact ⟨mf, mn, ms, fb, vs, vw, ss, ws, e, h1.kept k2 (fun b hb e => h6 (e ▸ hb)) (fun b hb e => h5 (e ▸ hb)), rfl⟩
  · have := h1.own_lt hb
    rcases hr with h | h
    · exact h7 b hb h
    · have := h.1; omega
  · rcases hb with hb | hb | hb
    · exact .inl ((h4 b).2 (.inl hb))
    · exact .inl ((h4 b).2 (.inr hb))
    · exact .inr hb.1
theorem Two.create1 (h : Two F G w p s1 r s2) {k : List UInt8} (hk : k.length ≤ maxLen) (hok : s1.Ok N) (hN : N + 1 < maxList) :
    Calls Tryz.prog 34 #[.pointer (some ⟨p, 0, none⟩), .string ⟨k.toArray⟩] w fun e w' => e = .returned (.int .i64 ((s1.create k).2 : Int)) ∧ ∃ F' G', Two F' G' w' p (s1.create k).1 r s2 ∧ Moves F G F' G' w w' := by
  obtain ⟨own, R, R2, h1, h2, h3, h4, h5, h6, h7⟩ := h
  have h1' := h1
  obtain ⟨mf, mn, ms, fb, vs, vw, ss, ws, e, h1, rfl⟩ := h1
  exact (Create_any h1 hk hok (by omega)).mono fun e w' ⟨k1, k2⟩ => ⟨k1, Two.turn1 h1' h2 h3 h4 h5 h6 h7 k2⟩
theorem Two.create2 (h : Two F G w p s1 r s2) {k : List UInt8} (hk : k.length ≤ maxLen) (hok : s2.Ok N) (hN : N + 1 < maxList) :
    Calls Tryz.prog 35 #[.pointer (some ⟨r, 0, none⟩), .string ⟨k.toArray⟩] w fun e w' => e = .returned (.int .i64 ((s2.create k).2 : Int)) ∧ ∃ F' G', Two F' G' w' p s1 r (s2.create k).1 ∧ Moves F G F' G' w w' := by
  have hmx : maxList = 4194304 := rfl
  obtain ⟨own, R, R2, h1, h2, h3, h4, h5, h6, h7⟩ := h
  exact (rCreate_any h2 hok (by omega) k hk).mono fun e w' ⟨k1, k2⟩ => ⟨k1, Two.turn2 h1 h2 h3 h4 h5 h6 h7 k2⟩
theorem Two.put1 (h : Two F G w p s1 r s2) {k : List UInt8} (hk : k.length ≤ maxLen) {at_ : Int} {xa : Option Addr} {xc : Nat} {l : List UInt8} (hrow : RowAt w xa (l.map bv)) (hnil : xa = none → xc = 0) (hl : l.length ≤ 140737488355328) (h64 : -9223372036854775808 ≤ at_ ∧ at_ < 9223372036854775808) (hok : s1.Ok N) (hN : N + 1 < maxList) :
    Calls Tryz.prog 37 #[.pointer (some ⟨p, 0, none⟩), .string ⟨k.toArray⟩, .int .i64 at_, .slice xa l.length xc] w fun e w' => e = .returned (.int .i64 ((s1.put k at_ l).2 : Int)) ∧ ∃ F' G', Two F' G' w' p (s1.put k at_ l).1 r s2 ∧ Moves F G F' G' w w' := by
  obtain ⟨own, R, R2, h1, h2, h3, h4, h5, h6, h7⟩ := h
  have h1' := h1
  obtain ⟨mf, mn, ms, fb, vs, vw, ss, ws, e, h1, rfl⟩ := h1
  exact (Write_any h1 hk hok hN hrow hnil hl h64).mono fun e w' ⟨k1, k2⟩ => ⟨k1, Two.turn1 h1' h2 h3 h4 h5 h6 h7 k2⟩
theorem Two.put2 (h : Two F G w p s1 r s2) {k : List UInt8} (hk : k.length ≤ maxLen) {at_ : Int} {xa : Option Addr} {xc : Nat} {l : List UInt8} (hrow : RowAt w xa (l.map bv)) (hnil : xa = none → xc = 0) (hl : l.length ≤ 140737488355328) (h64 : -9223372036854775808 ≤ at_ ∧ at_ < 9223372036854775808) (hxr : ∀ y, xa = some y → l ≠ [] → ¬ F y.block) (hok : s2.Ok N) (hN : N + 1 < maxList) :
    Calls Tryz.prog 38 #[.pointer (some ⟨r, 0, none⟩), .string ⟨k.toArray⟩, .int .i64 at_, .slice xa l.length xc] w fun e w' => e = .returned (.int .i64 ((s2.put k at_ l).2 : Int)) ∧ ∃ F' G', Two F' G' w' p s1 r (s2.put k at_ l).1 ∧ Moves F G F' G' w w' := by
  have hmx : maxList = 4194304 := rfl
  obtain ⟨own, R, R2, h1, h2, h3, h4, h5, h6, h7⟩ := h
  exact (rWrite_any h2 hok (by omega) k hrow (fun y e hl e2 => hxr y e hl ((h3 _).2 (.inr e2))) hnil hl h64).mono fun e w' ⟨k1, k2⟩ => ⟨k1, Two.turn2 h1 h2 h3 h4 h5 h6 h7 k2⟩
theorem Two.cut1 (h : Two F G w p s1 r s2) {k : List UInt8} (hk : k.length ≤ maxLen) {size : Int} (h64 : -9223372036854775808 ≤ size ∧ size < 9223372036854775808) (hok : s1.Ok N) (hN : N + 1 < maxList) :
    Calls Tryz.prog 41 #[.pointer (some ⟨p, 0, none⟩), .string ⟨k.toArray⟩, .int .i64 size] w fun e w' => e = .returned (.int .i64 ((s1.cut k size).2 : Int)) ∧ ∃ F' G', Two F' G' w' p (s1.cut k size).1 r s2 ∧ Moves F G F' G' w w' := by
  obtain ⟨own, R, R2, h1, h2, h3, h4, h5, h6, h7⟩ := h
  have h1' := h1
  obtain ⟨mf, mn, ms, fb, vs, vw, ss, ws, e, h1, rfl⟩ := h1
  exact (Cut_any h1 hk hok hN h64).mono fun e w' ⟨k1, k2⟩ => ⟨k1, Two.turn1 h1' h2 h3 h4 h5 h6 h7 k2⟩
theorem Two.cut2 (h : Two F G w p s1 r s2) {k : List UInt8} (hk : k.length ≤ maxLen) {size : Int} (h64 : -9223372036854775808 ≤ size ∧ size < 9223372036854775808) (hok : s2.Ok N) (hN : N + 1 < maxList) :
    Calls Tryz.prog 42 #[.pointer (some ⟨r, 0, none⟩), .string ⟨k.toArray⟩, .int .i64 size] w fun e w' => e = .returned (.int .i64 ((s2.cut k size).2 : Int)) ∧ ∃ F' G', Two F' G' w' p s1 r (s2.cut k size).1 ∧ Moves F G F' G' w w' := by
  have hmx : maxList = 4194304 := rfl
  obtain ⟨own, R, R2, h1, h2, h3, h4, h5, h6, h7⟩ := h
  exact (rCut_any h2 hok (by omega) k h64).mono fun e w' ⟨k1, k2⟩ => ⟨k1, Two.turn2 h1 h2 h3 h4 h5 h6 h7 k2⟩
theorem Two.sync1 (h : Two F G w p s1 r s2) {k : List UInt8} (hk : k.length ≤ maxLen) (hok : s1.Ok N) (hN : N + 1 < maxList) :
    Calls Tryz.prog 43 #[.pointer (some ⟨p, 0, none⟩), .string ⟨k.toArray⟩] w fun e w' => e = .returned (.int .i64 ((s1.sync k).2 : Int)) ∧ ∃ F' G', Two F' G' w' p (s1.sync k).1 r s2 ∧ Moves F G F' G' w w' := by
  obtain ⟨own, R, R2, h1, h2, h3, h4, h5, h6, h7⟩ := h
  have h1' := h1
  obtain ⟨mf, mn, ms, fb, vs, vw, ss, ws, e, h1, rfl⟩ := h1
  exact (Sync_any h1 hk hok hN).mono fun e w' ⟨k1, k2⟩ => ⟨k1, Two.turn1 h1' h2 h3 h4 h5 h6 h7 k2⟩
theorem Two.sync2 (h : Two F G w p s1 r s2) {k : List UInt8} (hk : k.length ≤ maxLen) (hok : s2.Ok N) (hN : N + 1 < maxList) :
    Calls Tryz.prog 44 #[.pointer (some ⟨r, 0, none⟩), .string ⟨k.toArray⟩] w fun e w' => e = .returned (.int .i64 ((s2.sync k).2 : Int)) ∧ ∃ F' G', Two F' G' w' p s1 r (s2.sync k).1 ∧ Moves F G F' G' w w' := by
  have hmx : maxList = 4194304 := rfl
  obtain ⟨own, R, R2, h1, h2, h3, h4, h5, h6, h7⟩ := h
  exact (rSync_any h2 hok (by omega) k).mono fun e w' ⟨k1, k2⟩ => ⟨k1, Two.turn2 h1 h2 h3 h4 h5 h6 h7 k2⟩
theorem Two.syncNames1 (h : Two F G w p s1 r s2)  (hok : s1.Ok N) (hN : N + 1 < maxList) :
    Calls Tryz.prog 45 #[.pointer (some ⟨p, 0, none⟩)] w fun e w' => e = .returned (.int .i64 ((s1.syncNames).2 : Int)) ∧ ∃ F' G', Two F' G' w' p (s1.syncNames).1 r s2 ∧ Moves F G F' G' w w' := by
  obtain ⟨own, R, R2, h1, h2, h3, h4, h5, h6, h7⟩ := h
  have h1' := h1
  obtain ⟨mf, mn, ms, fb, vs, vw, ss, ws, e, h1, rfl⟩ := h1
  exact (SyncNames_any h1 hok hN).mono fun e w' ⟨k1, k2⟩ => ⟨k1, Two.turn1 h1' h2 h3 h4 h5 h6 h7 k2⟩
theorem Two.syncNames2 (h : Two F G w p s1 r s2)  (hok : s2.Ok N) (hN : N + 1 < maxList) :
    Calls Tryz.prog 46 #[.pointer (some ⟨r, 0, none⟩)] w fun e w' => e = .returned (.int .i64 ((s2.syncNames).2 : Int)) ∧ ∃ F' G', Two F' G' w' p s1 r (s2.syncNames).1 ∧ Moves F G F' G' w w' := by
  have hmx : maxList = 4194304 := rfl
  obtain ⟨own, R, R2, h1, h2, h3, h4, h5, h6, h7⟩ := h
  exact (rSyncNames_any h2 hok (by omega)).mono fun e w' ⟨k1, k2⟩ => ⟨k1, Two.turn2 h1 h2 h3 h4 h5 h6 h7 k2⟩
theorem Two.rename1 (h : Two F G w p s1 r s2) {k t : List UInt8} (hk : k.length ≤ maxLen) (ht : t.length ≤ maxLen) (hok : s1.Ok N) (hN : N + 1 < maxList) :
    Calls Tryz.prog 47 #[.pointer (some ⟨p, 0, none⟩), .string ⟨k.toArray⟩, .string ⟨t.toArray⟩] w fun e w' => e = .returned (.int .i64 ((s1.rename k t).2 : Int)) ∧ ∃ F' G', Two F' G' w' p (s1.rename k t).1 r s2 ∧ Moves F G F' G' w w' := by
  obtain ⟨own, R, R2, h1, h2, h3, h4, h5, h6, h7⟩ := h
  have h1' := h1
  obtain ⟨mf, mn, ms, fb, vs, vw, ss, ws, e, h1, rfl⟩ := h1
  exact (Rename_any h1 hk ht hok hN).mono fun e w' ⟨k1, k2⟩ => ⟨k1, Two.turn1 h1' h2 h3 h4 h5 h6 h7 k2⟩
theorem Two.rename2 (h : Two F G w p s1 r s2) {k t : List UInt8} (hk : k.length ≤ maxLen) (ht : t.length ≤ maxLen) (hok : s2.Ok N) (hN : N + 1 < maxList) :
    Calls Tryz.prog 48 #[.pointer (some ⟨r, 0, none⟩), .string ⟨k.toArray⟩, .string ⟨t.toArray⟩] w fun e w' => e = .returned (.int .i64 ((s2.rename k t).2 : Int)) ∧ ∃ F' G', Two F' G' w' p s1 r (s2.rename k t).1 ∧ Moves F G F' G' w w' := by
  have hmx : maxList = 4194304 := rfl
  obtain ⟨own, R, R2, h1, h2, h3, h4, h5, h6, h7⟩ := h
  exact (rRename_any h2 hok (by omega) k t ht).mono fun e w' ⟨k1, k2⟩ => ⟨k1, Two.turn2 h1 h2 h3 h4 h5 h6 h7 k2⟩
theorem Two.remove1 (h : Two F G w p s1 r s2) {k : List UInt8} (hk : k.length ≤ maxLen) (hok : s1.Ok N) (hN : N + 1 < maxList) :
    Calls Tryz.prog 49 #[.pointer (some ⟨p, 0, none⟩), .string ⟨k.toArray⟩] w fun e w' => e = .returned (.int .i64 ((s1.remove k).2 : Int)) ∧ ∃ F' G', Two F' G' w' p (s1.remove k).1 r s2 ∧ Moves F G F' G' w w' := by
  obtain ⟨own, R, R2, h1, h2, h3, h4, h5, h6, h7⟩ := h
  have h1' := h1
  obtain ⟨mf, mn, ms, fb, vs, vw, ss, ws, e, h1, rfl⟩ := h1
  exact (Remove_any h1 hk hok hN).mono fun e w' ⟨k1, k2⟩ => ⟨k1, Two.turn1 h1' h2 h3 h4 h5 h6 h7 k2⟩
theorem Two.remove2 (h : Two F G w p s1 r s2) {k : List UInt8} (hk : k.length ≤ maxLen) (hok : s2.Ok N) (hN : N + 1 < maxList) :
    Calls Tryz.prog 50 #[.pointer (some ⟨r, 0, none⟩), .string ⟨k.toArray⟩] w fun e w' => e = .returned (.int .i64 ((s2.remove k).2 : Int)) ∧ ∃ F' G', Two F' G' w' p s1 r (s2.remove k).1 ∧ Moves F G F' G' w w' := by
  have hmx : maxList = 4194304 := rfl
  obtain ⟨own, R, R2, h1, h2, h3, h4, h5, h6, h7⟩ := h
  exact (rRemove_any h2 hok (by omega) k).mono fun e w' ⟨k1, k2⟩ => ⟨k1, Two.turn2 h1 h2 h3 h4 h5 h6 h7 k2⟩
end

end Go.Proofs.YtgckcnnnblggbaaGreat
/- The document's disk: leads; plain laws of a stop. -/
namespace Go.Proofs.YtgckcnnnblggbaaGreat
open Go.RowKit Go.Maps

set_option maxHeartbeats 1000000 in
theorem rleads_any {w : World} {lo : Nat} {v : Value} {l : NL} (h : NamedAt w lo v l) (f : Nat) (hl : l.length ≤ maxLen) :
    Calls Tryz.prog 60 #[v, .int .i64 (f : Int)] w fun e w' => e = .returned (.bool (leadsTo l f)) ∧ w = w' := by
  have hmax : maxLen = 9223372036854775807 := rfl
  obtain ⟨a, c, rfl, hat⟩ := h.at_
  have HAT := Lib.hid hat; clear hat
  go_enter Tryz.func60, Tryz.ntmps60
  go_wp2
  go_loop [5] (fun i => ∃ n : Nat, n ≤ l.length ∧ i = .int .i64 n ∧ Hid (∀ j q, j < n → l[j]? = some q → q.2 ≠ f)) (fun i => l.length - (RowKit.intOf i).toNat)
  case atStart => exact ⟨0, by omega, rfl, Lib.hid (fun j q hj => by omega)⟩
  case round =>
    obtain ⟨n, hn, rfl, HA⟩ := hrel
    by_cases hlt : n < l.length
    · obtain ⟨p, hp⟩ : ∃ p, l[n]? = some p := ⟨l[n]'hlt, by simp⟩
      obtain ⟨g, rfl, q0, q1⟩ := HAT.out n p hp
      have j0 : (0 : Int) ≤ (n : Int) := by omega
      have j1 : (n : Int) < (l.length : Int) := by omega
      have HP := Lib.hid hp; clear hp
      by_cases he : p.2 = f
      · have e1 : ((p.2 : Int) == (f : Int)) = true := beq_iff_eq.2 (by omega)
        have hr : leadsTo l f = true := by unfold leadsTo; exact List.any_eq_true.2 ⟨p, List.mem_of_getElem? HP.out, by simpa using he⟩
        have HR := Lib.hid hr; clear hr he
        go_wp2
        go_ret
        exact ⟨by rw [HR.out]; rfl, rfl⟩
      · have e1 : ((p.2 : Int) == (f : Int)) = false := beq_eq_false_iff_ne.2 (by omega)
        have HE := Lib.hid he; clear he
        go_wp2
        go_round
        case rel => exact ⟨n + 1, by omega, by go_num, Lib.hid (fun j q hj hq => by
          by_cases h1 : j = n
          · subst h1; rw [HP.out] at hq; rw [← Option.some.inj hq]; exact HE.out
          · exact HA.out j q (by omega) hq)⟩
        case measure => simp [RowKit.intOf]; omega
    · obtain rfl : n = l.length := by omega
      have hr : leadsTo l f = false := by
        unfold leadsTo
        rw [List.any_eq_false]
        intro q hq
        obtain ⟨j, hj, rfl⟩ := List.mem_iff_getElem.1 hq
        have := HA.out j l[j] hj (by simp)
        simpa using this
      have HR := Lib.hid hr; clear hr
      go_wp2
      go_ret
      exact ⟨by rw [HR.out]; rfl, rfl⟩

theorem keep_far {keep : List Bool} {k : Nat} (h : keep.length ≤ k) : keep.getD k false = false := by
  rw [List.getD_eq_getElem?_getD, List.getElem?_eq_none h]; rfl
theorem lastKept_far {s : DSt} {l : NL} {keep : List Bool} : ∀ {d n : Nat}, keep.length ≤ n → lastKept s l keep (n + d) = lastKept s l keep n
  | 0, n, h => rfl
  | d + 1, n, h => by
    rw [← lastKept_far (d := d) h, Nat.add_succ]
    show (if keptAt s l keep (n + d) && _ then _ else _) = _
    unfold keptAt
    rw [keep_far (by omega)]
    simp
theorem lastKept_min {s : DSt} {l : NL} {keep : List Bool} {n : Nat} (h1 : n ≤ s.writes.length) (h : n = s.writes.length ∨ keep.length ≤ n) : lastKept s l keep n = lastKept s l keep s.writes.length := by
  rcases h with rfl | h
  · rfl
  · obtain ⟨d, hd⟩ : ∃ d, s.writes.length = n + d := ⟨s.writes.length - n, by omega⟩
    rw [hd, lastKept_far h]
theorem stopFile_far {s : DSt} {keep : List Bool} {last : Option Nat} {torn : Int} {f : Nat} : ∀ {d n : Nat}, keep.length ≤ n → stopFile s keep last torn f (n + d) = stopFile s keep last torn f n
  | 0, n, h => rfl
  | d + 1, n, h => by
    rw [← stopFile_far (d := d) h, Nat.add_succ]
    show (match s.writes[n + d]? with | some x => if keep.getD (n + d) false && x.file == f then _ else _ | none => _) = _
    rw [keep_far (by omega)]
    split <;> simp
theorem stopFile_min {s : DSt} {keep : List Bool} {last : Option Nat} {torn : Int} {f n : Nat} (h1 : n ≤ s.writes.length) (h : n = s.writes.length ∨ keep.length ≤ n) : stopFile s keep last torn f n = stopFile s keep last torn f s.writes.length := by
  rcases h with rfl | h
  · rfl
  · obtain ⟨d, hd⟩ : ∃ d, s.writes.length = n + d := ⟨s.writes.length - n, by omega⟩
    rw [hd, stopFile_far h]
theorem lastKept_next {s : DSt} {l : NL} {keep : List Bool} {n : Nat} {x : Wr} {b : Bool} (hx : s.writes[n]? = some x) (hb : keep[n]? = some b) : lastKept s l keep (n + 1) = if b && !x.cut && leadsTo l x.file then some n else lastKept s l keep n := by
  show (if keptAt s l keep n && (match s.writes[n]? with | some x => !x.cut | none => false) then some n else lastKept s l keep n) = _
  unfold keptAt
  rw [hx, List.getD_eq_getElem?_getD, hb]
  cases b <;> cases hc : x.cut <;> cases hl : leadsTo l x.file <;> simp [hc, hl]
theorem stopFile_next {s : DSt} {keep : List Bool} {last : Option Nat} {torn : Int} {f n : Nat} {x : Wr} {b : Bool} (hx : s.writes[n]? = some x) (hb : keep[n]? = some b) : stopFile s keep last torn f (n + 1) = if b && x.file == f then laid (stopFile s keep last torn f n) x (laidOf last torn n x) else stopFile s keep last torn f n := by
  show (match s.writes[n]? with | some x => if keep.getD n false && x.file == f then _ else _ | none => _) = _
  rw [hx, List.getD_eq_getElem?_getD, hb]
  rfl
theorem steps_take {s : DSt} {n : Nat} {x : NStep} (hx : s.steps[n]? = some x) : (s.steps.take (n + 1)).foldl doStep s.sure = doStep ((s.steps.take n).foldl doStep s.sure) x := by
  obtain ⟨h, e⟩ := List.getElem?_eq_some_iff.1 hx
  rw [List.take_succ_eq_append_getElem h, e, List.foldl_append]
  rfl
theorem steps_take_ok {s : DSt} {N : Nat} (h : s.Ok N) (n : Nat) : NamesOk ((s.steps.take n).foldl doStep s.sure) s.files.length ∧ ((s.steps.take n).foldl doStep s.sure).length ≤ N + N := by
  refine ⟨NamesOk.steps ⟨h.risingSure, h.sure⟩ (fun x hx => h.steps x (List.mem_of_mem_take hx)), ?_⟩
  have := steps_len' s.sure (s.steps.take n)
  have := h.manySure
  have := h.manySteps
  simp only [List.length_take] at *
  omega

end Go.Proofs.YtgckcnnnblggbaaGreat
