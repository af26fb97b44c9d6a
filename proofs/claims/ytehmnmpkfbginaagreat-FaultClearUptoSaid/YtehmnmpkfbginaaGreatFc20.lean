/- Texts of this claim, one behind the other: FaA, FaB, FaC. -/
import Derived.Test.YtehmnmpkfbginaaGreatFc17
import Derived.Test.YtehmnmpkfbginaaGreatFc18
import Derived.Test.YtehmnmpkfbginaaGreatFc19
import Derived.Test.YtehmnmpkfbginaaGreatFc01
import Derived.Test.YtehmnmpkfbginaaGreatFc03
import Derived.Maps.AppendAt
import Derived.Deep.CutBlock
set_option linter.unusedSimpArgs false
set_option linter.unusedVariables false
/- The program's disk by itself: the blocks that it writes, those that it reads, too. (printed by gen/one.py) -/
namespace Go.Proofs.YtehmnmpkfbginaaGreat
open Go.RowKit Go.Maps

/-- the program's disk s lies at p; F are the blocks that it writes, G those that it reads, too -/
def One (F G : Nat → Prop) (w : World) (p : Nat) (s : DSt) : Prop := ∃ own R, DiskAt w p s own R ∧ (∀ b, F b ↔ b ∈ own) ∧ ∀ b, G b ↔ R b
/-- a step: what is written and read from now on is of the old blocks, or new -/
def Moved (F G F' G' : Nat → Prop) (w w' : World) : Prop := Chg F w w' ∧ (∀ b, F' b → (F b ∨ w.heap.size ≤ b) ∧ b < w'.heap.size) ∧ ∀ b, G' b → (G b ∨ w.heap.size ≤ b) ∧ b < w'.heap.size
section
variable {F G : Nat → Prop} {w : World} {p : Nat} {s : DSt} {N : Nat}
theorem One.has (h : One F G w p s) : Has 0 w p s := by
  obtain ⟨own, R, h1, _⟩ := h
  exact ⟨own, R, h1, fun _ _ => Nat.zero_le _⟩
theorem One.lt (h : One F G w p s) : (∀ b, F b → b < w.heap.size) ∧ (∀ b, G b → b < w.heap.size) ∧ (∀ b, F b → ¬ G b) ∧ F p := by
  obtain ⟨own, R, h1, h2, h3⟩ := h
  exact ⟨fun b hb => h1.own_lt ((h2 b).1 hb), fun b hb => (h1.shared ((h3 b).1 hb)).1, fun b hb hg => (h1.shared ((h3 b).1 hg)).2 ((h2 b).1 hb), (h2 p).2 h1.p_mem⟩
theorem One.kept (h : One F G w p s) {O : Nat → Prop} {w' : World} (hc : Chg O w w') (hF : ∀ b, F b → ¬ O b) (hG : ∀ b, G b → ¬ O b) : One F G w' p s := by
  obtain ⟨own, R, ⟨mf, mn, ms, fb, vs, vw, ss, ws, e, h1, rfl⟩, h2, h3⟩ := h
  exact ⟨_, R, ⟨mf, mn, ms, fb, vs, vw, ss, ws, e, h1.kept hc (fun b hb => hG b ((h3 b).2 hb)) (fun b hb => hF b ((h2 b).2 hb)), rfl⟩, h2, h3⟩
theorem One.below (h : One F G w p s) {w' : World} (hb : Below w.heap.size w w') : One F G w' p s := h.kept (O := fun _ => False) (Chg.of_below hb) (fun _ _ h => h) (fun _ _ h => h)
theorem One.turn {w' : World} {s' : DSt} {own : List Nat} {R : Nat → Prop} (h2 : ∀ b, F b ↔ b ∈ own) (h3 : ∀ b, G b ↔ R b) (ht : Turns w w' p s' own R) : ∃ F' G', One F' G' w' p s' ∧ Moved F G F' G' w w' := by
  obtain ⟨own', k1, k2, k3⟩ := ht
  have ho : One (fun b => b ∈ own') (RNew R w w' own') w' p s' := ⟨own', _, k1, fun _ => Iff.rfl, fun _ => Iff.rfl⟩
  refine ⟨_, _, ho, k2.mono (fun b hb _ => (h2 b).2 hb), fun b hb => ⟨(k3 b hb).imp (h2 b).2 id, ho.lt.1 b hb⟩, fun b hb => ⟨?_, ho.lt.2.1 b hb⟩⟩
  rcases hb with hb | hb
  · exact .inl ((h3 b).2 hb)
  · exact .inr hb.1
theorem One.create (h : One F G w p s) {k : List UInt8} (hk : k.length ≤ maxLen) (hok : s.Ok N) (hN : N + 1 < maxList) :
    Calls Tryz.prog 95 #[.pointer (some ⟨p, 0, none⟩), .string ⟨k.toArray⟩] w fun e w' => e = .returned (.int .i64 ((s.create k).2 : Int)) ∧ ∃ F' G', One F' G' w' p (s.create k).1 ∧ Moved F G F' G' w w' := by
  obtain ⟨own, R, ⟨mf, mn, ms, fb, vs, vw, ss, ws, e, h1, rfl⟩, h2, h3⟩ := h
  exact (Create_any h1 hk hok (by omega)).mono fun e w' ⟨k1, k2⟩ => ⟨k1, One.turn h2 h3 k2⟩
theorem One.put (h : One F G w p s) {k : List UInt8} (hk : k.length ≤ maxLen) {at_ : Int} {xa : Option Addr} {xc : Nat} {l : List UInt8} (hrow : RowAt w xa (l.map bv)) (hnil : xa = none → xc = 0) (hl : l.length ≤ 140737488355328) (h64 : -9223372036854775808 ≤ at_ ∧ at_ < 9223372036854775808) (hok : s.Ok N) (hN : N + 1 < maxList) :
    Calls Tryz.prog 102 #[.pointer (some ⟨p, 0, none⟩), .string ⟨k.toArray⟩, .int .i64 at_, .slice xa l.length xc] w fun e w' => e = .returned (.int .i64 ((s.put k at_ l).2 : Int)) ∧ ∃ F' G', One F' G' w' p (s.put k at_ l).1 ∧ Moved F G F' G' w w' := by
  obtain ⟨own, R, ⟨mf, mn, ms, fb, vs, vw, ss, ws, e, h1, rfl⟩, h2, h3⟩ := h
  exact (Write_any h1 hk hok hN hrow hnil hl h64).mono fun e w' ⟨k1, k2⟩ => ⟨k1, One.turn h2 h3 k2⟩
theorem One.cut (h : One F G w p s) {k : List UInt8} (hk : k.length ≤ maxLen) {size : Int} (h64 : -9223372036854775808 ≤ size ∧ size < 9223372036854775808) (hok : s.Ok N) (hN : N + 1 < maxList) :
    Calls Tryz.prog 96 #[.pointer (some ⟨p, 0, none⟩), .string ⟨k.toArray⟩, .int .i64 size] w fun e w' => e = .returned (.int .i64 ((s.cut k size).2 : Int)) ∧ ∃ F' G', One F' G' w' p (s.cut k size).1 ∧ Moved F G F' G' w w' := by
  obtain ⟨own, R, ⟨mf, mn, ms, fb, vs, vw, ss, ws, e, h1, rfl⟩, h2, h3⟩ := h
  exact (Cut_any h1 hk hok hN h64).mono fun e w' ⟨k1, k2⟩ => ⟨k1, One.turn h2 h3 k2⟩
theorem One.sync (h : One F G w p s) {k : List UInt8} (hk : k.length ≤ maxLen) (hok : s.Ok N) (hN : N + 1 < maxList) :
    Calls Tryz.prog 100 #[.pointer (some ⟨p, 0, none⟩), .string ⟨k.toArray⟩] w fun e w' => e = .returned (.int .i64 ((s.sync k).2 : Int)) ∧ ∃ F' G', One F' G' w' p (s.sync k).1 ∧ Moved F G F' G' w w' := by
  obtain ⟨own, R, ⟨mf, mn, ms, fb, vs, vw, ss, ws, e, h1, rfl⟩, h2, h3⟩ := h
  exact (Sync_any h1 hk hok hN).mono fun e w' ⟨k1, k2⟩ => ⟨k1, One.turn h2 h3 k2⟩
theorem One.syncNames (h : One F G w p s)  (hok : s.Ok N) (hN : N + 1 < maxList) :
    Calls Tryz.prog 101 #[.pointer (some ⟨p, 0, none⟩)] w fun e w' => e = .returned (.int .i64 ((s.syncNames).2 : Int)) ∧ ∃ F' G', One F' G' w' p (s.syncNames).1 ∧ Moved F G F' G' w w' := by
  obtain ⟨own, R, ⟨mf, mn, ms, fb, vs, vw, ss, ws, e, h1, rfl⟩, h2, h3⟩ := h
  exact (SyncNames_any h1 hok hN).mono fun e w' ⟨k1, k2⟩ => ⟨k1, One.turn h2 h3 k2⟩
theorem One.rename (h : One F G w p s) {k t : List UInt8} (hk : k.length ≤ maxLen) (ht : t.length ≤ maxLen) (hok : s.Ok N) (hN : N + 1 < maxList) :
    Calls Tryz.prog 99 #[.pointer (some ⟨p, 0, none⟩), .string ⟨k.toArray⟩, .string ⟨t.toArray⟩] w fun e w' => e = .returned (.int .i64 ((s.rename k t).2 : Int)) ∧ ∃ F' G', One F' G' w' p (s.rename k t).1 ∧ Moved F G F' G' w w' := by
  obtain ⟨own, R, ⟨mf, mn, ms, fb, vs, vw, ss, ws, e, h1, rfl⟩, h2, h3⟩ := h
  exact (Rename_any h1 hk ht hok hN).mono fun e w' ⟨k1, k2⟩ => ⟨k1, One.turn h2 h3 k2⟩
theorem One.remove (h : One F G w p s) {k : List UInt8} (hk : k.length ≤ maxLen) (hok : s.Ok N) (hN : N + 1 < maxList) :
    Calls Tryz.prog 98 #[.pointer (some ⟨p, 0, none⟩), .string ⟨k.toArray⟩] w fun e w' => e = .returned (.int .i64 ((s.remove k).2 : Int)) ∧ ∃ F' G', One F' G' w' p (s.remove k).1 ∧ Moved F G F' G' w w' := by
  obtain ⟨own, R, ⟨mf, mn, ms, fb, vs, vw, ss, ws, e, h1, rfl⟩, h2, h3⟩ := h
  exact (Remove_any h1 hk hok hN).mono fun e w' ⟨k1, k2⟩ => ⟨k1, One.turn h2 h3 k2⟩
theorem One.copy (h : One F G w p s) (hok : s.Ok N) (hN : N < maxList) :
    Calls Tryz.prog 26 #[.pointer (some ⟨p, 0, none⟩)] w fun e w' => ∃ po F' G', e = .returned (.pointer (some ⟨po, 0, none⟩)) ∧ One F' G' w' po s ∧ (∀ b, F' b → w.heap.size ≤ b) ∧ (∀ b, G' b → G b ∨ w.heap.size ≤ b) ∧ Below w.heap.size w w' := by
  obtain ⟨own, R, ⟨mf, mn, ms, fb, vs, vw, ss, ws, e, h1, rfl⟩, h2, h3⟩ := h
  exact (Copy_any h1 hok hN).mono fun e w' ⟨po, own', k1, k2, k3, k4⟩ => ⟨po, fun b => b ∈ own', RNew R w w' own', k1, ⟨own', _, k2, fun _ => Iff.rfl, fun _ => Iff.rfl⟩, k3, fun b hb => hb.elim (fun h => .inl ((h3 b).2 h)) (fun h => .inr h.1), k4⟩
end
/-- a disk of files, new -/
theorem One.of {w w' : World} {p : Nat} {s : DSt} {own : List Nat} {R : Nat → Prop} (h : DiskAt w' p s own R) (ho : ∀ b ∈ own, w.heap.size ≤ b) (hR : ∀ b, R b → w.heap.size ≤ b) : ∃ F G, One F G w' p s ∧ (∀ b, F b → w.heap.size ≤ b ∧ b < w'.heap.size) ∧ ∀ b, G b → w.heap.size ≤ b ∧ b < w'.heap.size := by
  have h1 : One (fun b => b ∈ own) R w' p s := ⟨own, R, h, fun _ => Iff.rfl, fun _ => Iff.rfl⟩
  exact ⟨_, _, h1, fun b hb => ⟨ho b hb, h1.lt.1 b hb⟩, fun b hb => ⟨hR b hb, h1.lt.2.1 b hb⟩⟩

end Go.Proofs.YtehmnmpkfbginaaGreat
/- slices.BinarySearch over a rising list of numbers. -/
namespace Go.Proofs.YtehmnmpkfbginaaGreat
open Go.RowKit

/-- how many numbers of a rising list are below t -/
def low (zs : List Int) (t : Int) : Nat := (zs.takeWhile (· < t)).length
theorem low_le (zs : List Int) (t : Int) : low zs t ≤ zs.length := by
  unfold low
  exact (List.takeWhile_sublist _).length_le
theorem low_below {zs : List Int} {t : Int} {k : Nat} (hk : k < low zs t) (hl : k < zs.length) : zs[k] < t := by
  unfold low at hk
  induction zs generalizing k with
  | nil => simp at hk
  | cons x r ih =>
    by_cases hx : x < t
    · cases k with
      | zero => exact hx
      | succ k =>
        simp only [List.takeWhile_cons, hx, decide_true, if_true, List.length_cons] at hk
        exact ih (by omega) (by simpa using hl)
    · simp [List.takeWhile_cons, hx] at hk
theorem low_at {zs : List Int} {t : Int} (h : low zs t < zs.length) : ¬ zs[low zs t] < t := by
  induction zs with
  | nil => simp at h
  | cons x r ih =>
    by_cases hx : x < t
    · have e : low (x :: r) t = low r t + 1 := by simp [low, List.takeWhile_cons, hx]
      simp only [e] at h ⊢
      simp only [List.getElem_cons_succ]
      exact ih (by simpa using h)
    · have e : low (x :: r) t = 0 := by simp [low, List.takeWhile_cons, hx]
      simp only [e, List.getElem_cons_zero]
      exact hx
theorem low_above {zs : List Int} {t : Int} (hs : zs.Pairwise (· < ·)) {k : Nat} (hk : low zs t ≤ k) (hl : k < zs.length) : ¬ zs[k] < t := by
  have h1 := low_at (zs := zs) (t := t) (by omega)
  rcases Nat.lt_or_ge (low zs t) k with h2 | h2
  · have := List.pairwise_iff_getElem.1 hs (low zs t) k (by omega) hl h2
    omega
  · have e : low zs t = k := by omega
    simp only [e] at h1
    exact h1
theorem low_mem {zs : List Int} {t : Int} (hs : zs.Pairwise (· < ·)) : (t ∈ zs) ↔ ∃ h : low zs t < zs.length, zs[low zs t] = t := by
  constructor
  · intro hm
    obtain ⟨k, hk, e⟩ := List.getElem_of_mem hm
    have h1 : ¬ k < low zs t := fun h => by have := low_below h hk; omega
    have hl : low zs t < zs.length := by omega
    refine ⟨hl, ?_⟩
    have h2 := low_at hl
    rcases Nat.lt_or_ge (low zs t) k with h3 | h3
    · have := List.pairwise_iff_getElem.1 hs (low zs t) k hl hk h3
      omega
    · have e2 : low zs t = k := by omega
      simp only [e2]
      exact e
  · rintro ⟨h, e⟩
    rw [← e]
    exact List.getElem_mem _
theorem cNaN_any (a : Int) (w : World) : Calls Tryz.prog 52 #[.int .i64 a] w fun e w' => e = .returned (.bool false) ∧ w = w' := by
  have g : (a != a) = false := by simp
  go_enter Tryz.func52, Tryz.ntmps52
  go_wp2
  go_ret
  exact ⟨rfl, rfl⟩
theorem less64_any (a b : Int) (w : World) : Calls Tryz.prog 46 #[.int .i64 a, .int .i64 b] w fun e w' => e = .returned (.bool (decide (a < b))) ∧ w = w' := by
  go_enter Tryz.func46, Tryz.ntmps46
  go_wp2_with (go_at_call 52; refine (cNaN_any _ _).mono ?_; rintro _ w1 ⟨rfl, rfl⟩)
  go_ret
  exact ⟨rfl, rfl⟩
theorem sNaN_any (a : Int) (w : World) : Calls Tryz.prog 47 #[.int .i64 a] w fun e w' => e = .returned (.bool false) ∧ w = w' := by
  have g : (a != a) = false := by simp
  go_enter Tryz.func47, Tryz.ntmps47
  go_wp2
  go_ret
  exact ⟨rfl, rfl⟩
set_option maxRecDepth 100000 in
set_option maxHeartbeats 1000000 in
theorem search_any {zs : List Int} (hs : zs.Pairwise (· < ·)) (t : Int) {w : World} {a : Option Addr} {c : Nat} (hrow : RowAt w a (zs.map (Value.int .i64))) (hl : zs.length ≤ 4194304) :
    Calls Tryz.prog 41 #[.slice a zs.length c, .int .i64 t] w fun e w' => e = .returned (.tuple #[.int .i64 (low zs t : Int), .bool (decide (t ∈ zs))]) ∧ w = w' := by
  have hle := low_le zs t
  have HS := Lib.hid hs
  clear hs
  go_enter Tryz.func41, Tryz.ntmps41
  go_wp2
  go_loop [7, 8] (fun i j => ∃ x y : Nat, i = .int .i64 x ∧ j = .int .i64 y ∧ x ≤ low zs t ∧ low zs t ≤ y ∧ y ≤ zs.length) (fun i j => (intOf j - intOf i).toNat)
  case atStart => exact ⟨0, zs.length, rfl, rfl, Nat.zero_le _, hle, Nat.le_refl _⟩
  case round =>
    obtain ⟨x, y, rfl, rfl, hx, hy, hyl⟩ := hrel
    by_cases hlt : x < y
    · have hhl : (x + y) / 2 < zs.length := by omega
      have HHL := hhl
      obtain ⟨b, off, rfl, hc⟩ := hrow (by intro e; rw [List.map_eq_nil_iff] at e; subst e; simp at HHL)
      obtain ⟨z, hz⟩ : ∃ z, zs[(x + y) / 2] = z := ⟨_, rfl⟩
      have hcell : w.cell? ⟨b, off + (x + y) / 2, none⟩ = some (.int .i64 z) := hc _ _ (by rw [List.getElem?_map, List.getElem?_eq_getElem hhl, hz]; rfl)
      have j0 : (0 : Int) ≤ ((x : Int) + y) / 2 := by omega
      have j1 : ((x : Int) + y) / 2 < (zs.length : Int) := by omega
      have HC := Lib.hid hc
      have HZ := Lib.hid hz
      clear hc hz
      by_cases hzt : z < t
      · have g : decide (z < t) = true := by simpa using hzt
        have hup : (x + y) / 2 < low zs t := by
          rcases Nat.lt_or_ge ((x + y) / 2) (low zs t) with h | h
          · exact h
          · exact absurd (HZ.out ▸ hzt) (low_above HS.out h hhl)
        go_wp2_with (go_at_call 46; refine (less64_any _ _ _).mono ?_; rintro _ w1 ⟨rfl, rfl⟩)
        go_round
        case rel => exact ⟨(x + y) / 2 + 1, y, by go_num, rfl, by omega, hy, hyl⟩
        case measure => simp [intOf]; omega
      · have g : decide (z < t) = false := by simpa using hzt
        have hup : low zs t ≤ (x + y) / 2 := by
          rcases Nat.lt_or_ge ((x + y) / 2) (low zs t) with h | h
          · exact absurd (HZ.out ▸ low_below h hhl) hzt
          · exact h
        go_wp2_with (go_at_call 46; refine (less64_any _ _ _).mono ?_; rintro _ w1 ⟨rfl, rfl⟩)
        go_round
        case rel => exact ⟨x, (x + y) / 2, rfl, by go_num, hx, hup, by omega⟩
        case measure => simp [intOf]; omega
    · obtain rfl : x = low zs t := by omega
      obtain rfl : y = low zs t := by omega
      by_cases hin : low zs t < zs.length
      · have HHL := hin
        obtain ⟨b, off, rfl, hc⟩ := hrow (by intro e; rw [List.map_eq_nil_iff] at e; subst e; simp at HHL)
        obtain ⟨z, hz⟩ : ∃ z, zs[low zs t] = z := ⟨_, rfl⟩
        have hcell : w.cell? ⟨b, off + low zs t, none⟩ = some (.int .i64 z) := hc _ _ (by rw [List.getElem?_map, List.getElem?_eq_getElem hin, hz]; rfl)
        have hm : decide (t ∈ zs) = (z == t) := by
          rw [← hz]
          by_cases e : zs[low zs t] = t
          · simp [(low_mem HS.out).2 ⟨hin, e⟩, e]
          · have : ¬ t ∈ zs := fun h => by obtain ⟨_, e2⟩ := (low_mem HS.out).1 h; exact e e2
            simp [this, e]
        have j1 : ((low zs t : Nat) : Int) < (zs.length : Int) := by omega
        have HM := Lib.hid hm
        have HC := Lib.hid hc
        have HZ := Lib.hid hz
        clear hm hc hz hle hx hy
        cases hzt : (z == t) with
        | true =>
          go_wp2_with (go_at_call 47; refine (sNaN_any _ _).mono ?_; rintro _ w1 ⟨rfl, rfl⟩)
          go_ret2
          exact ⟨by rw [HM.out, hzt]; rfl, rfl⟩
        | false =>
          go_wp2_with (go_at_call 47; refine (sNaN_any _ _).mono ?_; rintro _ w1 ⟨rfl, rfl⟩)
          go_ret2
          exact ⟨by rw [HM.out, hzt]; rfl, rfl⟩
      · have hm : decide (t ∈ zs) = false := by
          simp only [decide_eq_false_iff_not]
          intro h
          obtain ⟨h1, _⟩ := (low_mem HS.out).1 h
          exact hin h1
        have HM := Lib.hid hm
        have j1 : ¬ ((low zs t : Nat) : Int) < (zs.length : Int) := by omega
        clear hm
        go_wp2_with fail
        go_ret2
        exact ⟨by rw [HM.out]; rfl, rfl⟩

end Go.Proofs.YtehmnmpkfbginaaGreat
/- The device over the disk: ask. (printed by gen/ask.py) -/
namespace Go.Proofs.YtehmnmpkfbginaaGreat
open Go.RowKit Go.Maps

/-- a step that was asked of a device -/
structure FStep where
  op : Int
  name : List UInt8
  dst : List UInt8
  at_ : Int
  size : Int
  err : Int
def encFS (x : FStep) : List Value := [.int .i64 x.op, sv x.name, sv x.dst, .int .i64 x.at_, .int .i64 x.size, .int .i64 x.err]
/-- a device over a disk, with its plan -/
structure FSt where
  disk : DSt
  full : List Int
  halt : Int
  done : List FStep
  off : Bool
def FSt.offB (f : FSt) : Bool := f.off || (decide (0 ≤ f.halt) && decide (f.halt ≤ (f.done.length : Int)))
/-- a step is asked: d is the disk behind it, and its answer -/
def FSt.ask (f : FSt) (x : FStep) (d : DSt × Nat) : FSt × Int :=
  if f.offB = true then ({ f with off := true, done := f.done ++ [{ x with err := 6 }] }, 6)
  else if (f.done.length : Int) ∈ f.full then ({ f with done := f.done ++ [{ x with err := 5 }] }, 5)
  else ({ f with disk := d.1, done := f.done ++ [{ x with err := (d.2 : Int) }] }, (d.2 : Int))
/-- the disk as a device -/
def devV (p : Nat) : Value := .iface 31 (.pointer (some ⟨p, 0, none⟩))
/-- THE DEVICE f LIES AT pf, over the disk at pd: its parts -/
structure FaultP (F1 G1 : Nat → Prop) (w : World) (pf pd : Nat) (f : FSt) (vf vd : Value) (e : TypeId) : Prop where
  cells : w.heap[pf]? = some (.cells #[.pointer (some ⟨pd, 0, none⟩), devV pd, vf, .int .i64 f.halt, vd, .bool f.off] e (0, 0))
  disk : One F1 G1 w pd f.disk
  full : w.ownsRow 0 2 1 vf f.full.length (f.full.map (Value.int .i64))
  done : w.ownsRow 0 87 6 vd f.done.length ((f.done.map encFS).flatten)
  rise : f.full.Pairwise (· < ·)
  out : ∀ b, F1 b ∨ G1 b → b ≠ pf ∧ vf.ownBlock ≠ some b ∧ vd.ownBlock ≠ some b
  pfv : vf.ownBlock ≠ some pf ∧ vd.ownBlock ≠ some pf
  apart : ∀ b, vf.ownBlock = some b → vd.ownBlock ≠ some b
def FaultAt (F G : Nat → Prop) (w : World) (pf pd : Nat) (f : FSt) : Prop := ∃ F1 G1 vf vd e, FaultP F1 G1 w pf pd f vf vd e ∧ (∀ b, F b ↔ F1 b ∨ b = pf ∨ vf.ownBlock = some b ∨ vd.ownBlock = some b) ∧ ∀ b, G b ↔ G1 b
section
variable {F1 G1 : Nat → Prop} {w w' : World} {pf pd : Nat} {f : FSt} {vf vd : Value} {e : TypeId}
theorem FaultP.kept (h : FaultP F1 G1 w pf pd f vf vd e) {O : Nat → Prop} (hc : Chg O w w') (h1 : ∀ b, F1 b ∨ G1 b → ¬ O b) (h2 : ¬ O pf) (h3 : ∀ b, vf.ownBlock = some b → ¬ O b) (h4 : ∀ b, vd.ownBlock = some b → ¬ O b) : FaultP F1 G1 w' pf pd f vf vd e where
  cells := hc.obj h.cells h2
  disk := h.disk.kept hc (fun b hb => h1 b (.inl hb)) (fun b hb => h1 b (.inr hb))
  full := hc.row h.full h3
  done := hc.row h.done h4
  rise := h.rise
  out := h.out
  pfv := h.pfv
  apart := h.apart
end
theorem FaultAt.kept {F G O : Nat → Prop} {w w' : World} {pf pd : Nat} {f : FSt} (h : FaultAt F G w pf pd f) (hc : Chg O w w') (hF : ∀ b, F b → ¬ O b) (hG : ∀ b, G b → ¬ O b) : FaultAt F G w' pf pd f := by
  obtain ⟨F1, G1, vf, vd, e, h1, h2, h3⟩ := h
  exact ⟨F1, G1, vf, vd, e, h1.kept hc (fun b hb => hb.elim (fun k => hF b ((h2 b).2 (.inl k))) (fun k => hG b ((h3 b).2 k))) (hF pf ((h2 pf).2 (.inr (.inl rfl)))) (fun b hb => hF b ((h2 b).2 (.inr (.inr (.inl hb))))) (fun b hb => hF b ((h2 b).2 (.inr (.inr (.inr hb))))), h2, h3⟩
theorem FaultAt.below {F G : Nat → Prop} {w w' : World} {pf pd : Nat} {f : FSt} (h : FaultAt F G w pf pd f) (hb : Below w.heap.size w w') : FaultAt F G w' pf pd f := h.kept (O := fun _ => False) (Chg.of_below hb) (fun _ _ h => h) (fun _ _ h => h)
theorem FaultAt.lt {F G : Nat → Prop} {w : World} {pf pd : Nat} {f : FSt} (h : FaultAt F G w pf pd f) : (∀ b, F b → b < w.heap.size) ∧ (∀ b, G b → b < w.heap.size) ∧ (∀ b, F b → ¬ G b) ∧ F pf := by
  obtain ⟨F1, G1, vf, vd, e, h1, h2, h3⟩ := h
  have hl := h1.disk.lt
  refine ⟨fun b hb => ?_, fun b hb => hl.2.1 b ((h3 b).1 hb), fun b hb hg => ?_, (h2 pf).2 (.inr (.inl rfl))⟩
  · rcases (h2 b).1 hb with hb | rfl | hb | hb
    · exact hl.1 b hb
    · exact heap_lt h1.cells
    · exact (h1.full.lt b hb).2
    · exact (h1.done.lt b hb).2
  · have hg1 := (h3 b).1 hg
    have ho := h1.out b (.inr hg1)
    rcases (h2 b).1 hb with hb | rfl | hb | hb
    · exact hl.2.2.1 b hb hg1
    · exact ho.1 rfl
    · exact ho.2.1 hb
    · exact ho.2.2 hb
/-- between the step and its note -/
def AskMid (F1 G1 : Nat → Prop) (w : World) (pf pd : Nat) (vf vd : Value) (halt : Int) (e : TypeId) (ob : Bool) (x : FStep) (d : DSt) (wx : World) : Prop :=
  Chg (fun b => F1 b ∨ b = pf) w wx ∧ wx.heap[pf]? = some (.cells #[.pointer (some ⟨pd, 0, none⟩), devV pd, vf, .int .i64 halt, vd, .bool ob] e (0, 0)) ∧ wx.heap[w.heap.size]? = some (.cells (encFS x).toArray 87 (0, 0)) ∧
    ∃ F2 G2, One F2 G2 wx pd d ∧ (∀ b, F2 b → F1 b ∨ w.heap.size < b) ∧ ∀ b, G2 b → G1 b ∨ w.heap.size < b
theorem ask_done {F1 G1 : Nat → Prop} {w wx w' : World} {pf pd : Nat} {f : FSt} {vf vd vd' : Value} {e : TypeId} (h : FaultP F1 G1 w pf pd f vf vd e) {ob : Bool} {x : FStep} {d : DSt} (hm : AskMid F1 G1 w pf pd vf vd f.halt e ob x d wx)
    (hc : Chg (fun b => b = pf ∨ vd.ownBlock = some b) wx w') (hx : w'.heap[pf]? = some (.cells #[.pointer (some ⟨pd, 0, none⟩), devV pd, vf, .int .i64 f.halt, vd', .bool ob] e (0, 0)))
    (hd : w'.ownsRow 0 87 6 vd' (f.done.length + 1) ((f.done.map encFS).flatten ++ encFS x)) (hv : vd'.ownBlock = vd.ownBlock ∨ ∃ g, vd'.ownBlock = some g ∧ wx.heap.size ≤ g) :
    ∃ F' G', FaultAt F' G' w' pf pd { f with disk := d, done := f.done ++ [x], off := ob } ∧ Moved (fun b => F1 b ∨ b = pf ∨ vf.ownBlock = some b ∨ vd.ownBlock = some b) G1 F' G' w w' := by
  obtain ⟨hcx, hxx, hbx, F2, G2, ho, hF2, hG2⟩ := hm
  have hsx := hcx.size
  have hs' := hc.size
  have hbl := heap_lt hbx
  have hpl := heap_lt h.cells
  have hol := ho.lt
  have hvl : ∀ b, vd.ownBlock = some b → b < w.heap.size := fun b hb => (h.done.lt b hb).2
  have hfl : ∀ b, vf.ownBlock = some b → b < w.heap.size := fun b hb => (h.full.lt b hb).2
  have hout2 : ∀ b, F2 b ∨ G2 b → b ≠ pf ∧ vf.ownBlock ≠ some b ∧ vd.ownBlock ≠ some b ∧ b < wx.heap.size := fun b hb => by
    have hlt : b < wx.heap.size := hb.elim (hol.1 b) (hol.2.1 b)
    have h0 : (F1 b ∨ G1 b) ∨ w.heap.size < b := by
      rcases hb with hb | hb
      · exact (hF2 b hb).imp .inl id
      · exact (hG2 b hb).imp .inr id
    rcases h0 with h0 | h0
    · have := h.out b h0; exact ⟨this.1, this.2.1, this.2.2, hlt⟩
    · exact ⟨by omega, fun e => by have := hfl b e; omega, fun e => by have := hvl b e; omega, hlt⟩
  have hvd' : ∀ b, vd'.ownBlock = some b → vd.ownBlock = some b ∨ (wx.heap.size ≤ b ∧ b < w'.heap.size) := fun b hb => by
    rcases hv with hv | ⟨g, hv, hg⟩
    · exact .inl (by rw [← hv]; exact hb)
    · rw [hv] at hb; cases hb; exact .inr ⟨hg, (hd.lt _ hv).2⟩
  have hP : FaultP F2 G2 w' pf pd { f with disk := d, done := f.done ++ [x], off := ob } vf vd' e := {
    cells := hx
    disk := ho.kept hc (fun b hb hO => by have := hout2 b (.inl hb); rcases hO with hO | hO; exact this.1 hO; exact this.2.2.1 hO) (fun b hb hO => by have := hout2 b (.inr hb); rcases hO with hO | hO; exact this.1 hO; exact this.2.2.1 hO)
    full := hc.row (hcx.row h.full (fun b hb hO => by rcases hO with hO | hO; exact (h.out b (.inl hO)).2.1 hb; subst hO; exact h.pfv.1 hb)) (fun b hb hO => by rcases hO with hO | hO; subst hO; exact h.pfv.1 hb; exact h.apart b hb hO)
    done := by simpa using hd
    rise := h.rise
    out := fun b hb => by
      have h1 := hout2 b hb
      exact ⟨h1.1, h1.2.1, fun e => by rcases hvd' b e with h2 | h2; exact h1.2.2.1 h2; omega⟩
    pfv := ⟨h.pfv.1, fun e => by rcases hvd' pf e with h2 | h2; exact h.pfv.2 h2; omega⟩
    apart := fun b hb e => by
      rcases hvd' b e with h2 | h2
      · exact h.apart b hb h2
      · have := hfl b hb; omega }
  refine ⟨_, _, ⟨F2, G2, vf, vd', e, hP, fun _ => Iff.rfl, fun _ => Iff.rfl⟩, ?_, fun b hb => ?_, fun b hb => ?_⟩
  · exact (hcx.mono (fun b hb _ => hb.imp id .inl)).trans hc (fun b hb _ => .inr (hb.elim .inl (fun h => .inr (.inr h))))
  · rcases hb with hb | rfl | hb | hb
    · exact ⟨(hF2 b hb).elim (fun h => .inl (.inl h)) (fun h => .inr (by omega)), by have := (hout2 b (.inl hb)).2.2.2; omega⟩
    · exact ⟨.inl (.inr (.inl rfl)), by omega⟩
    · exact ⟨.inl (.inr (.inr (.inl hb))), by have := hfl b hb; omega⟩
    · rcases hvd' b hb with h2 | h2
      · exact ⟨.inl (.inr (.inr (.inr h2))), by have := hvl b h2; omega⟩
      · exact ⟨.inr (by omega), h2.2⟩
  · exact ⟨(hG2 b hb).elim (fun h => .inl h) (fun h => .inr (by omega)), by have := (hout2 b (.inr hb)).2.2.2; omega⟩
theorem Tryz.info87 : (Tryz.prog.info? 87).map (fun i => (i.zero, i.size, i.bytes)) = some (some (.agg #[.int .i64 0, .string ⟨#[]⟩, .string ⟨#[]⟩, .int .i64 0, .int .i64 0, .int .i64 0]), 6, 64) := by kernel_rfl
theorem count_any {F1 G1 : Nat → Prop} {w : World} {pf pd : Nat} {f : FSt} {vf vd : Value} {e : TypeId} (h : FaultP F1 G1 w pf pd f vf vd e) :
    Calls Tryz.prog 21 #[.pointer (some ⟨pf, 0, none⟩)] w fun e w' => e = .returned (.int .i64 (f.done.length : Int)) ∧ w = w' := by
  obtain ⟨a, c, rfl, _⟩ := ownsRow_at h.done
  have c4 := cell_of_heap h.cells (i := 4) (v := .slice a f.done.length c) (by rfl)
  go_enter Tryz.func21, Tryz.ntmps21
  go_wp2
  go_ret
  exact ⟨rfl, rfl⟩

end Go.Proofs.YtehmnmpkfbginaaGreat
