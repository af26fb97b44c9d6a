/- Disk: leaves; the states of DiskTorn. -/
import Derived.Test.YtgckcnnnblggbaaDlL
import Derived.Test.YtgckcnnnblggbaaDlN
namespace Go.Proofs.Ytgckcnnnblggbaa
open Go.RowKit Go.Maps

set_option maxHeartbeats 1000000 in
theorem leaves_true {lo : Nat} {w : World} {p : Nat} {s : DSt} {N : Nat} (h : Has lo w p s) (hok : s.Ok N) (hN : N + N < maxList) {names torn : Int} (htorn : torn < 9223372036854775808) {ka : Option Addr} {kc : Nat} {keep : List Bool} (hk : RowAt w ka (keep.map Value.bool)) (hkl : keep.length ≤ maxLen)
    {aa : Option Addr} {ac : Nat} {b : List UInt8} (ha : RowAt w aa (b.map bv)) {n : Nat} (h1 : (s.stop names keep torn).all.length = n) (h2 : (s.stop names keep torn).read [97] 0 99 = (b, 0)) :
    Calls Try.prog 15 #[.pointer (some ⟨p, 0, none⟩), .agg #[.int .i64 names, .slice ka keep.length kc, .int .i64 torn], .slice aa b.length ac, .int .i64 (n : Int)] w fun e w' => e = .returned (.bool true) ∧ Below w.heap.size w w' := by
  obtain ⟨w1, hw1⟩ : ∃ w1, w.alloc (.cells #[.int .i64 names, .slice ka keep.length kc, .int .i64 torn] 38) = w1 := ⟨_, rfl⟩
  have hb1 : Below w.heap.size w w1 := by rw [← hw1]; exact below_alloc _ _
  have hbs1 : w1.heap[w.heap.size]? = some (.cells #[.int .i64 names, .slice ka keep.length kc, .int .i64 torn] 38 (0, 0)) := by rw [← hw1]; exact World.alloc_heap_new w _
  have q0 := cell_of_heap hbs1 (i := 0) (v := .int .i64 names) (by rfl)
  have q1 := cell_of_heap hbs1 (i := 1) (v := .slice ka keep.length kc) (by rfl)
  have q2 := cell_of_heap hbs1 (i := 2) (v := .int .i64 torn) (by rfl)
  have hS := (h.below hb1).stop (names := names) (kc := kc) htorn (hk.below hb1) hkl hok (by omega)
  have hok2 := hok.stop names keep torn
  generalize s.stop names keep torn = s2 at *
  have hl : (s2.all.length : Int) = (n : Int) := by rw [h1]
  have i1 : ((s2.all.length : Int) != (n : Int)) = false := by simp [hl]
  have i2 : ((s2.all.length : Int) == (n : Int)) = true := by simp [hl]
  have H2 := Lib.hid h2; clear h2 h1 hl
  have HB : Hid ((b == b) = true) := Lib.hid (by simp)
  have cN := num_any
  go_enter Try.func15, Try.ntmps15
  go_wp2_with (first
    | (go_at_call 11; refine (cN _ _).mono ?_; rintro _ wn ⟨rfl, rfl⟩)
    | (go_at_call 21; refine hS.mono ?_; rintro _ w2 ⟨po, rfl, HP, B2⟩; have cF := HP.files hok2 (by omega))
    | (go_at_call 31; refine cF.mono ?_; rintro _ w3 ⟨v3, cs3, rfl, hF3, B3⟩; obtain ⟨fa, fc, rfl, hfr⟩ := FilesRd.of_at hF3; have HP3 := HP.below B3; have cR := HP3.read (k := [97]) (by decide) (at_ := 0) (n := 99) (by decide) hok2 (by omega); rw [H2.out] at cR)
    | (go_at_call 22; refine cR.mono ?_; rintro _ w4 ⟨U, rfl, hU, B4⟩; obtain ⟨ua, uc, rfl, hul, hun, hur⟩ := hU.row; have cS := Same_any (c := uc) (d := ac) hur ((((ha.below hb1).below B2).below B3).below B4))
    | (go_at_call 24; refine cS.mono ?_; rintro _ w5 ⟨rfl, rfl⟩; rw [HB.out]))
  go_ret
  exact ⟨rfl, ((hb1.trans (B2.mono hb1.size)).trans (B3.mono (Nat.le_trans hb1.size B2.size))).trans (B4.mono (Nat.le_trans (Nat.le_trans hb1.size B2.size) B3.size))⟩

def tn (a b : List UInt8) (names : NL) (st : List NStep) (ws : List Wr) (n : Nat) : DSt := ⟨99, [(a, []), (b, [])], names, [([97], 0), ([98], 1)], st, ws, n⟩
def tnAB : NL := [([97], 0), ([98], 1)]
def tnA : NL := [([97], 0)]
def W1 : Wr := ⟨0, false, 0, [1, 2, 3]⟩
def W2 : Wr := ⟨1, false, 0, [4, 5]⟩
def W3 : Wr := ⟨0, true, 2, []⟩
def W4 : Wr := ⟨0, false, 2, [7, 8]⟩
def W5 : Wr := ⟨0, false, 4, []⟩
def rmB : NStep := .remove [98]
theorem tn_0 : DSt.ofFiles 99 [([97], []), ([98], [])] = tn [] [] tnAB [] [] 0 := by rfl
theorem tn_1 : (tn [] [] tnAB [] [] 0).put [97] 0 [1, 2, 3] = (tn [1, 2, 3] [] tnAB [] [W1] 1, 0) := by rfl
theorem tn_2 : (tn [1, 2, 3] [] tnAB [] [W1] 1).put [98] 0 [4, 5] = (tn [1, 2, 3] [4, 5] tnAB [] [W1, W2] 2, 0) := by rfl
theorem tn_3 : (tn [1, 2, 3] [4, 5] tnAB [] [W1, W2] 2).remove [98] = (tn [1, 2, 3] [4, 5] tnA [rmB] [W1, W2] 3, 0) := by rfl
theorem tn_4 : (tn [1, 2, 3] [4, 5] tnA [rmB] [W1, W2] 3).cut [97] 2 = (tn [1, 2] [4, 5] tnA [rmB] [W1, W2, W3] 4, 0) := by rfl
def tn4 : DSt := tn [1, 2] [4, 5] tnA [rmB] [W1, W2, W3] 4
theorem tn_5 : tn4.put [97] 2 [7, 8] = (tn [1, 2, 7, 8] [4, 5] tnA [rmB] [W1, W2, W3, W4] 5, 0) := by rfl
theorem tn_6 : (tn [1, 2, 7, 8] [4, 5] tnA [rmB] [W1, W2, W3, W4] 5).put [97] 4 [] = (tn [1, 2, 7, 8] [4, 5] tnA [rmB] [W1, W2, W3, W4, W5] 6, 0) := by rfl
def tn6 : DSt := tn [1, 2, 7, 8] [4, 5] tnA [rmB] [W1, W2, W3, W4, W5] 6
theorem tn_a : (tn4.stop 1 [true, true, true] 1).all.length = 1 ∧ (tn4.stop 1 [true, true, true] 1).read [97] 0 99 = ([1], 0) := by constructor <;> rfl
theorem tn_b : (tn4.stop 0 [true, true, true] 1).all.length = 2 ∧ (tn4.stop 0 [true, true, true] 1).read [97] 0 99 = ([1, 2], 0) := by constructor <;> rfl
theorem tn_c : (tn4.stop 1 [true] 2).all.length = 1 ∧ (tn4.stop 1 [true] 2).read [97] 0 99 = ([1, 2], 0) := by constructor <;> rfl
theorem tn_d : (tn6.stop 1 [false, false, false, true, true] 0).all.length = 1 ∧ (tn6.stop 1 [false, false, false, true, true] 0).read [97] 0 99 = ([0, 0, 7, 8], 0) := by constructor <;> rfl
theorem tn_e : (tn6.stop 1 [false, false, false, true] 0).all.length = 1 ∧ (tn6.stop 1 [false, false, false, true] 0).read [97] 0 99 = ([], 0) := by constructor <;> rfl
theorem tn_f : (tn6.stop 1 [false, false, false, true] 1).all.length = 1 ∧ (tn6.stop 1 [false, false, false, true] 1).read [97] 0 99 = ([0, 0, 7], 0) := by constructor <;> rfl
theorem ok_b : NameOk [98] := ⟨by decide, by decide, fun c hc => by simp at hc; subst hc; unfold ChOk; decide⟩
theorem ok_a' : NameOk [97] := ⟨by decide, by decide, fun c hc => by simp at hc; subst hc; unfold ChOk; decide⟩
theorem tn_good : NamesGood [([97], []), ([98], [])] := ⟨by simp [bytesBefore], fun p hp => by
  simp only [List.mem_cons, List.not_mem_nil, or_false] at hp
  rcases hp with rfl | rfl
  · exact ok_a'
  · exact ok_b⟩
theorem tn_ok0 : (tn [] [] tnAB [] [] 0).Ok 2 := by
  have := DSt.Ok.ofFiles (room := 99) (l := [([97], []), ([98], [])]) (by decide) ⟨tn_good.1, tn_good.2, fun p hp => by
    simp only [List.mem_cons, List.not_mem_nil, or_false] at hp
    rcases hp with rfl | rfl <;> decide⟩
  rw [tn_0] at this
  exact this
theorem tn_ok1 : (tn [1, 2, 3] [] tnAB [] [W1] 1).Ok 3 := by have := tn_ok0.put [97] 0 [1, 2, 3]; rw [tn_1] at this; exact this
theorem tn_ok2 : (tn [1, 2, 3] [4, 5] tnAB [] [W1, W2] 2).Ok 4 := by have := tn_ok1.put [98] 0 [4, 5]; rw [tn_2] at this; exact this
theorem tn_ok3 : (tn [1, 2, 3] [4, 5] tnA [rmB] [W1, W2] 3).Ok 5 := by have := tn_ok2.remove [98]; rw [tn_3] at this; exact this
theorem tn_ok4 : tn4.Ok 6 := by have := tn_ok3.cut [97] 2; rw [tn_4] at this; exact this
theorem tn_ok5 : (tn [1, 2, 7, 8] [4, 5] tnA [rmB] [W1, W2, W3, W4] 5).Ok 7 := by have := tn_ok4.put [97] 2 [7, 8]; rw [tn_5] at this; exact this
theorem tn_ok6 : tn6.Ok 8 := by have := tn_ok5.put [97] 4 []; rw [tn_6] at this; exact this

section
variable {lo : Nat} {w : World} {p : Nat}
theorem tc_1 (h : Has lo w p (tn [] [] tnAB [] [] 0)) : Calls Try.prog 12 #[.pointer (some ⟨p, 0, none⟩), .string ⟨#[97]⟩, .int .i64 0, .slice (some ⟨w.heap.size, 0, none⟩) 3 3] (w.alloc (.cells #[.int .u8 1, .int .u8 2, .int .u8 3] 5)) fun e w' => e = .returned (.int .i64 0) ∧ Has lo w' p (tn [1, 2, 3] [] tnAB [] [W1] 1) ∧ Below lo w w' := by
  have hlo := h.lo
  have := (h.below (below_alloc w (.cells #[.int .u8 1, .int .u8 2, .int .u8 3] 5))).put (k := [97]) (by decide) (at_ := 0) (l := [1, 2, 3]) (xc := 3) (row_built w _ _) (by simp) (by decide) (by decide) tn_ok0 (by decide)
  rw [tn_1] at this
  exact this.mono fun e w' ⟨k1, k2, k3⟩ => ⟨k1, k2, ((Below.refl lo w).alloc (by omega) _).trans k3⟩
theorem tc_2 (h : Has lo w p (tn [1, 2, 3] [] tnAB [] [W1] 1)) : Calls Try.prog 12 #[.pointer (some ⟨p, 0, none⟩), .string ⟨#[98]⟩, .int .i64 0, .slice (some ⟨w.heap.size, 0, none⟩) 2 2] (w.alloc (.cells #[.int .u8 4, .int .u8 5] 5)) fun e w' => e = .returned (.int .i64 0) ∧ Has lo w' p (tn [1, 2, 3] [4, 5] tnAB [] [W1, W2] 2) ∧ Below lo w w' := by
  have hlo := h.lo
  have := (h.below (below_alloc w (.cells #[.int .u8 4, .int .u8 5] 5))).put (k := [98]) (by decide) (at_ := 0) (l := [4, 5]) (xc := 2) (row_built w _ _) (by simp) (by decide) (by decide) tn_ok1 (by decide)
  rw [tn_2] at this
  exact this.mono fun e w' ⟨k1, k2, k3⟩ => ⟨k1, k2, ((Below.refl lo w).alloc (by omega) _).trans k3⟩
theorem tc_3 (h : Has lo w p (tn [1, 2, 3] [4, 5] tnAB [] [W1, W2] 2)) : Calls Try.prog 13 #[.pointer (some ⟨p, 0, none⟩), .string ⟨#[98]⟩] w fun e w' => e = .returned (.int .i64 0) ∧ Has lo w' p (tn [1, 2, 3] [4, 5] tnA [rmB] [W1, W2] 3) ∧ Below lo w w' := by
  have := h.remove (k := [98]) (by decide) tn_ok2 (by decide)
  rw [tn_3] at this
  exact this
theorem tc_4 (h : Has lo w p (tn [1, 2, 3] [4, 5] tnA [rmB] [W1, W2] 3)) : Calls Try.prog 14 #[.pointer (some ⟨p, 0, none⟩), .string ⟨#[97]⟩, .int .i64 2] w fun e w' => e = .returned (.int .i64 0) ∧ Has lo w' p tn4 ∧ Below lo w w' := by
  have := h.cut (k := [97]) (by decide) (size := 2) (by decide) tn_ok3 (by decide)
  rw [tn_4] at this
  exact this
theorem tc_5 (h : Has lo w p (tn4)) : Calls Try.prog 12 #[.pointer (some ⟨p, 0, none⟩), .string ⟨#[97]⟩, .int .i64 2, .slice (some ⟨w.heap.size, 0, none⟩) 2 2] (w.alloc (.cells #[.int .u8 7, .int .u8 8] 5)) fun e w' => e = .returned (.int .i64 0) ∧ Has lo w' p (tn [1, 2, 7, 8] [4, 5] tnA [rmB] [W1, W2, W3, W4] 5) ∧ Below lo w w' := by
  have hlo := h.lo
  have := (h.below (below_alloc w (.cells #[.int .u8 7, .int .u8 8] 5))).put (k := [97]) (by decide) (at_ := 2) (l := [7, 8]) (xc := 2) (row_built w _ _) (by simp) (by decide) (by decide) tn_ok4 (by decide)
  rw [tn_5] at this
  exact this.mono fun e w' ⟨k1, k2, k3⟩ => ⟨k1, k2, ((Below.refl lo w).alloc (by omega) _).trans k3⟩
theorem tc_6 (h : Has lo w p (tn [1, 2, 7, 8] [4, 5] tnA [rmB] [W1, W2, W3, W4] 5)) : Calls Try.prog 12 #[.pointer (some ⟨p, 0, none⟩), .string ⟨#[97]⟩, .int .i64 4, .slice none 0 0] w fun e w' => e = .returned (.int .i64 0) ∧ Has lo w' p (tn6) ∧ Below lo w w' := by
  have := h.put (k := [97]) (by decide) (at_ := 4) (l := []) (xa := none) (xc := 0) (RowAt.nil _ _) (by simp) (by decide) (by decide) tn_ok5 (by decide)
  rw [tn_6] at this
  exact this
theorem tl_a (h : Has lo w p tn4) {ka : Option Addr} {kc : Nat} (hk : RowAt w ka (([true, true, true] : List Bool).map Value.bool)) : Calls Try.prog 15 #[.pointer (some ⟨p, 0, none⟩), .agg #[.int .i64 1, .slice ka 3 kc, .int .i64 1], .slice (some ⟨w.heap.size, 0, none⟩) 1 1, .int .i64 1] (w.alloc (.cells #[.int .u8 1] 5)) fun e w' => e = .returned (.bool true) ∧ Below w.heap.size w w' :=
  (leaves_true (h.below (below_alloc w _)) tn_ok4 (by decide) (names := 1) (torn := 1) (by decide) (keep := [true, true, true]) (hk.below (below_alloc w _)) (by decide) (b := [1]) (row_built w _ _) tn_a.1 tn_a.2).mono fun e w' ⟨k1, k2⟩ => ⟨k1, (below_alloc w _).trans (k2.mono (by simp))⟩
theorem tl_b (h : Has lo w p tn4) {ka : Option Addr} {kc : Nat} (hk : RowAt w ka (([true, true, true] : List Bool).map Value.bool)) : Calls Try.prog 15 #[.pointer (some ⟨p, 0, none⟩), .agg #[.int .i64 0, .slice ka 3 kc, .int .i64 1], .slice (some ⟨w.heap.size, 0, none⟩) 2 2, .int .i64 2] (w.alloc (.cells #[.int .u8 1, .int .u8 2] 5)) fun e w' => e = .returned (.bool true) ∧ Below w.heap.size w w' :=
  (leaves_true (h.below (below_alloc w _)) tn_ok4 (by decide) (names := 0) (torn := 1) (by decide) (keep := [true, true, true]) (hk.below (below_alloc w _)) (by decide) (b := [1, 2]) (row_built w _ _) tn_b.1 tn_b.2).mono fun e w' ⟨k1, k2⟩ => ⟨k1, (below_alloc w _).trans (k2.mono (by simp))⟩
theorem tl_c (h : Has lo w p tn4) {ka : Option Addr} {kc : Nat} (hk : RowAt w ka (([true] : List Bool).map Value.bool)) : Calls Try.prog 15 #[.pointer (some ⟨p, 0, none⟩), .agg #[.int .i64 1, .slice ka 1 kc, .int .i64 2], .slice (some ⟨w.heap.size, 0, none⟩) 2 2, .int .i64 1] (w.alloc (.cells #[.int .u8 1, .int .u8 2] 5)) fun e w' => e = .returned (.bool true) ∧ Below w.heap.size w w' :=
  (leaves_true (h.below (below_alloc w _)) tn_ok4 (by decide) (names := 1) (torn := 2) (by decide) (keep := [true]) (hk.below (below_alloc w _)) (by decide) (b := [1, 2]) (row_built w _ _) tn_c.1 tn_c.2).mono fun e w' ⟨k1, k2⟩ => ⟨k1, (below_alloc w _).trans (k2.mono (by simp))⟩
theorem tl_d (h : Has lo w p tn6) {ka : Option Addr} {kc : Nat} (hk : RowAt w ka (([false, false, false, true, true] : List Bool).map Value.bool)) : Calls Try.prog 15 #[.pointer (some ⟨p, 0, none⟩), .agg #[.int .i64 1, .slice ka 5 kc, .int .i64 0], .slice (some ⟨w.heap.size, 0, none⟩) 4 4, .int .i64 1] (w.alloc (.cells #[.int .u8 0, .int .u8 0, .int .u8 7, .int .u8 8] 5)) fun e w' => e = .returned (.bool true) ∧ Below w.heap.size w w' :=
  (leaves_true (h.below (below_alloc w _)) tn_ok6 (by decide) (names := 1) (torn := 0) (by decide) (keep := [false, false, false, true, true]) (hk.below (below_alloc w _)) (by decide) (b := [0, 0, 7, 8]) (row_built w _ _) tn_d.1 tn_d.2).mono fun e w' ⟨k1, k2⟩ => ⟨k1, (below_alloc w _).trans (k2.mono (by simp))⟩
theorem tl_e (h : Has lo w p tn6) {ka : Option Addr} {kc : Nat} (hk : RowAt w ka (([false, false, false, true] : List Bool).map Value.bool)) : Calls Try.prog 15 #[.pointer (some ⟨p, 0, none⟩), .agg #[.int .i64 1, .slice ka 4 kc, .int .i64 0], .slice none 0 0, .int .i64 1] w fun e w' => e = .returned (.bool true) ∧ Below w.heap.size w w' :=
  leaves_true h tn_ok6 (by decide) (names := 1) (torn := 0) (by decide) (keep := [false, false, false, true]) hk (by decide) (b := []) (RowAt.nil _ _) tn_e.1 tn_e.2
theorem tl_f (h : Has lo w p tn6) {ka : Option Addr} {kc : Nat} (hk : RowAt w ka (([false, false, false, true] : List Bool).map Value.bool)) : Calls Try.prog 15 #[.pointer (some ⟨p, 0, none⟩), .agg #[.int .i64 1, .slice ka 4 kc, .int .i64 1], .slice (some ⟨w.heap.size, 0, none⟩) 3 3, .int .i64 1] (w.alloc (.cells #[.int .u8 0, .int .u8 0, .int .u8 7] 5)) fun e w' => e = .returned (.bool true) ∧ Below w.heap.size w w' :=
  (leaves_true (h.below (below_alloc w _)) tn_ok6 (by decide) (names := 1) (torn := 1) (by decide) (keep := [false, false, false, true]) (hk.below (below_alloc w _)) (by decide) (b := [0, 0, 7]) (row_built w _ _) tn_f.1 tn_f.2).mono fun e w' ⟨k1, k2⟩ => ⟨k1, (below_alloc w _).trans (k2.mono (by simp))⟩
/-- two files of no bytes, as the law hands them in -/
theorem tc_0 (w : World) : Calls Try.prog 10 #[.int .i64 99, .slice (some ⟨w.heap.size, 0, none⟩) 2 2] (w.alloc (.cells #[.string ⟨#[97]⟩, .slice none 0 0, .string ⟨#[98]⟩, .slice none 0 0] 30)) fun e w' => ∃ p, e = .returned (.tuple #[.pointer (some ⟨p, 0, none⟩), .int .i64 0]) ∧ Has w.heap.size w' p (tn [] [] tnAB [] [] 0) ∧ Below w.heap.size w w' := by
  have hA : FilesArg (w.alloc (.cells #[.string ⟨#[97]⟩, .slice none 0 0, .string ⟨#[98]⟩, .slice none 0 0] 30)) (some ⟨w.heap.size, 0, none⟩) [([97], []), ([98], [])] := fun _ => by
    refine ⟨w.heap.size, 0, rfl, fun i d hd => ?_⟩
    match i, hd with
    | 0, hd =>
      obtain rfl : d = ([97], []) := by simpa using hd.symm
      exact ⟨cell_new w _ _ 0 _ rfl, none, 0, cell_new w _ _ 1 _ rfl, fun _ => rfl, RowAt.nil _ _⟩
    | 1, hd =>
      obtain rfl : d = ([98], []) := by simpa using hd.symm
      exact ⟨cell_new w _ _ 2 _ rfl, none, 0, cell_new w _ _ 3 _ rfl, fun _ => rfl, RowAt.nil _ _⟩
    | i + 2, hd => simp at hd
  have := Of_any (cap := 99) (by decide) (c := 2) hA (by decide) (fun p hp => by
    simp only [List.mem_cons, List.not_mem_nil, or_false] at hp
    rcases hp with rfl | rfl <;> decide) (fun p hp => by
    simp only [List.mem_cons, List.not_mem_nil, or_false] at hp
    rcases hp with rfl | rfl <;> decide)
  refine this.mono fun e w' ⟨k1, k2⟩ => ?_
  rcases k1 with ⟨_, p, own, rfl, hD, hown⟩ | ⟨hb, _⟩
  · rw [tn_0] at hD
    exact ⟨p, rfl, ⟨own, _, hD, fun b hb => by have := hown b hb; rw [World.size_alloc] at this; omega⟩, (below_alloc w _).trans (k2.mono (by simp))⟩
  · exact absurd tn_good hb
end

end Go.Proofs.Ytgckcnnnblggbaa
