/- Texts of this claim, one behind the other: RfJ, DlJ, DlK, DlL. -/
import Derived.Test.YtgckcnnnblggbaaGreatPl51
import Derived.Test.YtgckcnnnblggbaaGreatSt32
import Derived.Handy
set_option linter.unusedSimpArgs false
set_option linter.unusedVariables false
/- Disk: steps that are handed in, opened: their lists of bools, too. (printed by gen/opk.py) -/
namespace Go.Proofs.YtgckcnnnblggbaaGreat
open Go.RowKit Go.Maps Go.ChangeShapes Go.WideShapes Go.Deep
set_option maxRecDepth 1000000

/-- bools that are handed in -/
def KeepAt (w : World) (ka : Option Addr) (kc : Nat) (l : List Bool) : Prop := RowAt w ka (l.map Value.bool) ∧ (ka = none → kc = 0)
def AStepAt2 (w : World) (b o : Nat) (x : AStep) : Prop := ∃ (da ka : Option Addr) (dc kc : Nat),
  (∀ (j : Nat) u, (encA x da dc ka kc)[j]? = some u → w.cell? ⟨b, o + j, none⟩ = some u) ∧ (da = none → dc = 0) ∧ RowAt w da (x.data.map bv) ∧ KeepAt w ka kc x.keep
def AStepsArg2 (w : World) (a : Option Addr) (xs : List AStep) : Prop := xs ≠ [] → ∃ b off, a = some ⟨b, off, none⟩ ∧ ∀ (i : Nat) x, xs[i]? = some x → AStepAt2 w b (off + i * 10) x
/-- what is known of a step behind its bounds -/
def AStep.More2 (x : AStep) : Prop := x.keep.length ≤ 1048576 ∧ x.st < 9223372036854775808 ∧ (-9223372036854775808 ≤ x.who ∧ x.who < 9223372036854775808)
section
variable {H : Type} {enc : TypeId × Value → H} {w : World} {base : Nat} {held : Bool}

theorem op_bools2 {fuel : Nat} {v : Value} {x : DataW H × List MemPlace} (h : DataW.trod enc Tryz.prog w base (fun _ => true) held fuel 37 [v] = some x) :
    ∃ a c, ∃ l : List Bool, v = .slice a l.length c ∧ KeepAt w a c l ∧ l.length + 1 ≤ Rows.uptoBulk x.1 := by
  rcases open_slice1 Tryz.underlying37 (by kernel_rfl) h with ⟨hcs, rfl⟩ | ⟨a, len, cap, m, n, V, D, Pl, hcs, hb, hl, hm, hmm, rfl, hel⟩
  · simp only [List.cons.injEq, and_true] at hcs
    subst hcs
    exact ⟨none, 0, [], rfl, ⟨RowAt.nil _ _, fun _ => rfl⟩, by simp [Rows.uptoBulk]⟩
  · simp only [List.cons.injEq, and_true] at hcs
    subst hcs
    simp only [if_true] at hmm
    subst hmm
    obtain ⟨B, hB⟩ := choose_lt (α := Bool) (p := fun i b => V i = .bool b) (fun i hi => by
      obtain ⟨c, h1, _⟩ := DataW.trod_bool Tryz.underlying4 (hel i hi).2
      exact ⟨c, (List.cons.inj h1).1⟩)
    refine ⟨some a, m, (List.range len).map B, by simp, ⟨?_, fun h => (by cases h)⟩, ?_⟩
    · have hr := row_of_cells (w := w) (a := a) (n := len) (V := fun i => .bool (B i)) (fun i hi => by rw [(hel i (by omega)).1, hB i (by omega)])
      rw [List.map_map]
      exact hr
    · have := bulks.slice_le ((List.range len).map D) ((List.range (m - len)).map fun j => D (len + j))
      simp at this
      simp
      omega

theorem op_astep2 {fuel : Nat} {cs : List Value} {x : DataW H × List MemPlace} (h : DataW.trod enc Tryz.prog w base (fun _ => true) held fuel 41 cs = some x) :
    ∃ (X : AStep) (da ka : Option Addr) (dc kc : Nat), cs = (encA X da dc ka kc).toList ∧
      (da = none → dc = 0) ∧ RowAt w da (X.data.map bv) ∧ KeepAt w ka kc X.keep ∧ (-9223372036854775808 ≤ X.at_ ∧ X.at_ < 9223372036854775808) ∧ (-9223372036854775808 ≤ X.n ∧ X.n < 9223372036854775808) ∧ X.name.length ≤ maxLen ∧ X.dst.length ≤ maxLen ∧ X.data.length + 1 ≤ Rows.uptoBulk x.1 ∧ X.keep.length + 1 ≤ Rows.uptoBulk x.1 ∧ X.st < 9223372036854775808 ∧ (-9223372036854775808 ≤ X.who ∧ X.who < 9223372036854775808) := by
  obtain ⟨xs, k, _, hxy, hl, hxl, hf⟩ := DataW.trod_struct Tryz.underlying41 h
  rw [c_step] at hl
  match xs, hxl, cs, hl with
  | [y0, y1, y2, y3, y4, y5, y6, y7], _, [v0, v1, v2, v3, v4, v5, v6, v7, v8, v9], _ =>
    have g0 := hf 0 _ rfl
    have g1 := hf 1 _ rfl
    have g2 := hf 2 _ rfl
    have g3 := hf 3 _ rfl
    have g4 := hf 4 _ rfl
    have g5 := hf 5 _ rfl
    have g6 := hf 6 _ rfl
    have g7 := hf 7 _ rfl
    simp only [List.getElem_toArray, List.getElem_cons_zero, List.getElem_cons_succ, c_int, c_i64, c_str, c_byt, c_stp, List.drop, List.take, List.getElem?_cons_zero, List.getElem?_cons_succ] at g0 g1 g2 g3 g4 g5 g6 g7
    obtain ⟨kind, e0, _, _⟩ := DataW.trod_int Tryz.underlying3 g0
    obtain ⟨who, e1, _, w1⟩ := DataW.trod_int Tryz.underlying3 g1
    obtain ⟨s2, e2, _, l2⟩ := DataW.trod_string Tryz.underlying9 g2
    obtain ⟨s3, e3, _, l3⟩ := DataW.trod_string Tryz.underlying9 g3
    obtain ⟨at_, e4, _, w4⟩ := DataW.trod_int Tryz.underlying2 g4
    obtain ⟨n, e5, _, w5⟩ := DataW.trod_int Tryz.underlying3 g5
    obtain ⟨da, dc, l, e6, hn, hr, hbk⟩ := op_bytes g6
    obtain ⟨zs, k2, _, hxy2, hl2, hzl, hz⟩ := DataW.trod_struct Tryz.underlying39 g7
    match zs, hzl with
    | [z0, z1, z2], _ =>
      have q0 := hz 0 _ rfl
      have q1 := hz 1 _ rfl
      have q2 := hz 2 _ rfl
      simp only [List.getElem_toArray, List.getElem_cons_zero, List.getElem_cons_succ, c_int, c_bol, List.drop, List.take, List.getElem?_cons_zero, List.getElem?_cons_succ] at q0 q1 q2
      obtain ⟨sn, e7, _, _⟩ := DataW.trod_int Tryz.underlying3 q0
      obtain ⟨ka, kc, kl, e8, hkr, hkl⟩ := op_bools2 q1
      obtain ⟨st, e9, _, w9⟩ := DataW.trod_int Tryz.underlying3 q2
      have e0 := (List.cons.inj e0).1
      have e1 := (List.cons.inj e1).1
      have e2 := (List.cons.inj e2).1
      have e3 := (List.cons.inj e3).1
      have e4 := (List.cons.inj e4).1
      have e5 := (List.cons.inj e5).1
      have e7 := (List.cons.inj e7).1
      have e9 := (List.cons.inj e9).1
      have h64 := i64_of_wf w4
      have hn64 := i64_of_wf w5
      have hw64 := i64_of_wf w1
      have hst := i64_of_wf w9
      refine ⟨⟨kind, who, s2.data.toList, s3.data.toList, at_, n, l, sn, kl, st⟩, da, ka, dc, kc, ?_, hn, hr, hkr, by simp only; omega, by simp only; omega, by show s2.data.toList.length ≤ maxLen; rw [Array.length_toList]; exact l2, by show s3.data.toList.length ≤ maxLen; rw [Array.length_toList]; exact l3, ?_, ?_, by simp only; omega, by simp only; omega⟩
      · subst e0 e1 e2 e3 e4 e5 e6 e7 e8 e9
        have t2 : (⟨s2.data.toList.toArray⟩ : ByteArray) = s2 := by rw [Array.toArray_toList]
        have t3 : (⟨s3.data.toList.toArray⟩ : ByteArray) = s3 := by rw [Array.toArray_toList]
        show [Value.int .i64 kind, .int .i64 who, .string s2, .string s3, .int .i64 at_, .int .i64 n, .slice da l.length dc, .int .i64 sn, .slice ka kl.length kc, .int .i64 st] = [Value.int .i64 kind, .int .i64 who, .string ⟨s2.data.toList.toArray⟩, .string ⟨s3.data.toList.toArray⟩, .int .i64 at_, .int .i64 n, .slice da l.length dc, .int .i64 sn, .slice ka kl.length kc, .int .i64 st]
        rw [t2, t3]
      · rw [hxy]
        simp only [List.map_cons, List.map_nil, Rows.uptoBulk, Rows.uptoBulkAll]
        omega
      · rw [hxy]
        simp only [List.map_cons, List.map_nil, Rows.uptoBulk, Rows.uptoBulkAll]
        rw [hxy2]
        simp only [List.map_cons, List.map_nil, Rows.uptoBulk, Rows.uptoBulkAll]
        omega

theorem op_asteps2 {fuel : Nat} {v : Value} {x : DataW H × List MemPlace} (h : DataW.trod enc Tryz.prog w base (fun _ => true) held fuel 25 [v] = some x) (hbk : Rows.uptoBulk x.1 ≤ 1048576) :
    ∃ a c, ∃ xs : List AStep, v = .slice a xs.length c ∧ AStepsArg2 w a xs ∧ (∀ x ∈ xs, x.Ok ∧ x.More2) ∧ xs.length + 1 ≤ Rows.uptoBulk x.1 := by
  rcases open_slice Tryz.underlying25 h with ⟨hcs, rfl⟩ | ⟨a, len, cap, m, n, D, Pl, hcs, hb, hl, hm, hmm, rfl, hel⟩
  · simp only [List.cons.injEq, and_true] at hcs
    subst hcs
    exact ⟨none, 0, [], rfl, fun h => absurd rfl h, fun p hp => (by cases hp), by simp [Rows.uptoBulk]⟩
  · simp only [List.cons.injEq, and_true] at hcs
    subst hcs
    simp only [if_true] at hmm
    subst hmm
    rw [c_step] at hel
    obtain ⟨B, hB⟩ := choose_lt (α := AStep) (p := fun i X => (∃ (da ka : Option Addr) (dc kc : Nat), (∀ j u, (encA X da dc ka kc)[j]? = some u → w.cell? (a.add (i * 10 + j)) = some u) ∧ (da = none → dc = 0) ∧ RowAt w da (X.data.map bv) ∧ KeepAt w ka kc X.keep) ∧
        (-9223372036854775808 ≤ X.at_ ∧ X.at_ < 9223372036854775808) ∧ (-9223372036854775808 ≤ X.n ∧ X.n < 9223372036854775808) ∧ X.name.length ≤ maxLen ∧ X.dst.length ≤ maxLen ∧ X.data.length + 1 ≤ Rows.uptoBulk (D i) ∧ X.keep.length + 1 ≤ Rows.uptoBulk (D i) ∧ X.st < 9223372036854775808 ∧ (-9223372036854775808 ≤ X.who ∧ X.who < 9223372036854775808)) (fun i hi => by
      obtain ⟨cs', h1, h2⟩ := hel i hi
      obtain ⟨_, hlen, hcell⟩ := World.cells?_some h1
      obtain ⟨X, da, ka, dc, kc, hcs, k1, k2, k2', k3, k3', k4, k5, k6, k7, k8⟩ := op_astep2 h2
      refine ⟨X, ⟨da, ka, dc, kc, fun j u hu => ?_, k1, k2, k2'⟩, k3, k3', k4, k5, k6, k7, k8⟩
      rw [← Array.getElem?_toList, ← hcs] at hu
      have hj : j < 10 := by rw [← hlen]; exact (List.getElem?_eq_some_iff.1 hu).1
      have := hcell j hj
      rw [Go.Deep.add_add] at this
      rw [this, hu])
    have hs := bulk_sum (n := len) (D := D) (f := fun i => (B i).data.length) (fun i hi => (hB i (by omega)).2.2.2.2.2.1)
    have he := bulks.slice_elems ((List.range len).map D) ((List.range (m - len)).map fun j => D (len + j))
    refine ⟨some a, m, (List.range len).map B, by simp, fun hne => ?_, fun p hp => ?_, ?_⟩
    · have hn : 0 < len := by
        rcases Nat.eq_zero_or_pos len with h0 | h0
        · subst h0; simp at hne
        · exact h0
      obtain ⟨b, off, spot⟩ := a
      obtain ⟨⟨da, ka, dc, kc, hc0, _⟩, _⟩ := hB 0 (by omega)
      have h0 := World.cell?_spot (hc0 0 _ rfl)
      have hspot : spot = none := by simpa [Addr.add] using h0
      subst hspot
      refine ⟨b, off, rfl, fun i d hd => ?_⟩
      rw [List.getElem?_map] at hd
      obtain ⟨j, hj, rfl⟩ := Option.map_eq_some_iff.1 hd
      obtain ⟨hjl, hij⟩ := List.getElem?_eq_some_iff.1 hj
      simp at hjl hij
      subst hij
      obtain ⟨⟨da, ka, dc, kc, hc, k1, k2, k3⟩, _⟩ := hB i (by omega)
      refine ⟨da, ka, dc, kc, fun j u hu => ?_, k1, k2, k3⟩
      have := hc j u hu
      rw [Go.WideShapes.add_plain, ← Nat.add_assoc] at this
      exact this
    · obtain ⟨i, hi, rfl⟩ := List.mem_map.1 hp
      obtain ⟨_, k3, k3', k4, k5, k6, k7, k8⟩ := hB i (by have := List.mem_range.1 hi; omega)
      have hmem : Rows.uptoBulk (D i) ≤ Rows.uptoBulkAll ((List.range len).map D) := bulks.part_le (List.mem_map.2 ⟨i, hi, rfl⟩)
      simp only at hbk
      exact ⟨⟨k4, k5, k3, k3', by omega⟩, by omega, k8⟩
    · simp only [List.length_map, List.length_range]
      omega

end

end Go.Proofs.YtgckcnnnblggbaaGreat
/- Disk: known: some of the chapter's rows. -/
namespace Go.Proofs.YtgckcnnnblggbaaGreat
open Go.RowKit Go.Maps

def kn (d : List UInt8) (ws : List Wr) (n : Nat) : DSt := ⟨6, [(d, [])], [([97], 0)], [], [.create [97] 0], ws, n⟩
theorem ok_a : nameOk [97] = true := (nameOk_true ⟨by decide, by decide, fun c hc => by simp at hc; subst hc; unfold ChOk; decide⟩).symm
theorem kn_1 : (DSt.empty 6).create [97] = (kn [] [] 1, 0) := by unfold DSt.create; rw [ok_a]; rfl
theorem kn_2 : (kn [] [] 1).create [97] = (kn [] [] 2, 8) := by unfold DSt.create; rw [ok_a]; rfl
theorem kn_3 : (kn [] [] 2).put [97] 0 [1, 2, 3] = (kn [1, 2, 3] [⟨0, false, 0, [1, 2, 3]⟩] 3, 0) := by rfl
theorem kn_4 : (kn [1, 2, 3] [⟨0, false, 0, [1, 2, 3]⟩] 3).put [97] 4 [] = (kn [1, 2, 3] [⟨0, false, 0, [1, 2, 3]⟩] 4, 2) := by rfl
theorem kn_5 : (kn [1, 2, 3] [⟨0, false, 0, [1, 2, 3]⟩] 4).put [97] 3 [4, 5, 6, 7] = (kn [1, 2, 3] [⟨0, false, 0, [1, 2, 3]⟩] 5, 5) := by rfl
theorem kn_6 : (kn [1, 2, 3] [⟨0, false, 0, [1, 2, 3]⟩] 5).stop 9 [true] 2 = DSt.ofFiles 6 [([97], [1, 2])] := by rfl
theorem kn_7 : (kn [1, 2, 3] [⟨0, false, 0, [1, 2, 3]⟩] 5).read [97] 1 9 = ([2, 3], 0) := by rfl
theorem kn_8 : (DSt.ofFiles 6 [([97], [1, 2])]).all = [([97], [1, 2])] := by rfl
theorem kn_9 : (kn [1, 2, 3] [⟨0, false, 0, [1, 2, 3]⟩] 5).room - (kn [1, 2, 3] [⟨0, false, 0, [1, 2, 3]⟩] 5).used = 3 := by rfl
theorem kn_ok1 : (kn [] [] 1).Ok 1 := by have := (DSt.Ok.empty (room := 6) (by decide) 0).create [97]; have e := kn_1; unfold DSt.empty at e; rw [e] at this; exact this
theorem kn_ok2 : (kn [] [] 2).Ok 2 := by have := kn_ok1.create [97]; rw [kn_2] at this; exact this
theorem kn_ok3 : (kn [1, 2, 3] [⟨0, false, 0, [1, 2, 3]⟩] 3).Ok 3 := by have := kn_ok2.put [97] 0 [1, 2, 3]; rw [kn_3] at this; exact this
theorem kn_ok4 : (kn [1, 2, 3] [⟨0, false, 0, [1, 2, 3]⟩] 4).Ok 4 := by have := kn_ok3.put [97] 4 []; rw [kn_4] at this; exact this
theorem kn_ok5 : (kn [1, 2, 3] [⟨0, false, 0, [1, 2, 3]⟩] 5).Ok 5 := by have := kn_ok4.put [97] 3 [4, 5, 6, 7]; rw [kn_5] at this; exact this
theorem kn_ok6 : (DSt.ofFiles 6 [([97], [1, 2])]).Ok 10 := by have := kn_ok5.stop 9 [true] 2; rw [kn_6] at this; exact this
theorem ok_a1b : nameOk [97, 46, 49, 45, 98] = true := (nameOk_true ⟨by decide, by decide, fun c hc => by
  simp only [List.mem_cons, List.not_mem_nil, or_false] at hc
  unfold ChOk
  rcases hc with rfl | rfl | rfl | rfl | rfl <;> decide⟩).symm
theorem ok_A : nameOk [65] = false := (nameOk_false (fun h => by have := h.2.2 65 (by simp); unfold ChOk at this; revert this; decide)).symm

end Go.Proofs.YtgckcnnnblggbaaGreat
/- known: contracts. -/
namespace Go.Proofs.YtgckcnnnblggbaaGreat
open Go.RowKit Go.Maps

section
variable {lo : Nat} {w : World} {p : Nat}
theorem kc_1 (h : Has lo w p (DSt.empty 6)) : Calls Tryz.prog 34 #[.pointer (some ⟨p, 0, none⟩), .string ⟨#[97]⟩] w fun e w' => e = .returned (.int .i64 0) ∧ Has lo w' p (kn [] [] 1) ∧ Below lo w w' := by
  have := h.create (k := [97]) (by decide) (N := 0) (DSt.Ok.empty (by decide) 0) (by decide)
  rw [kn_1] at this
  exact this
theorem kc_2 (h : Has lo w p (kn [] [] 1)) : Calls Tryz.prog 34 #[.pointer (some ⟨p, 0, none⟩), .string ⟨#[97]⟩] w fun e w' => e = .returned (.int .i64 8) ∧ Has lo w' p (kn [] [] 2) ∧ Below lo w w' := by
  have := h.create (k := [97]) (by decide) kn_ok1 (by decide)
  rw [kn_2] at this
  exact this
theorem kc_3 (h : Has lo w p (kn [] [] 2)) : Calls Tryz.prog 37 #[.pointer (some ⟨p, 0, none⟩), .string ⟨#[97]⟩, .int .i64 0, .slice (some ⟨w.heap.size, 0, none⟩) 3 3] (w.alloc (.cells #[.int .u8 1, .int .u8 2, .int .u8 3] 5)) fun e w' => e = .returned (.int .i64 0) ∧ Has lo w' p (kn [1, 2, 3] [⟨0, false, 0, [1, 2, 3]⟩] 3) ∧ Below lo w w' := by
  have hlo := h.lo
  have := (h.below (below_alloc w (.cells #[.int .u8 1, .int .u8 2, .int .u8 3] 5))).put (k := [97]) (by decide) (at_ := 0) (l := [1, 2, 3]) (xc := 3) (row_built w _ _) (by simp) (by decide) (by decide) kn_ok2 (by decide)
  rw [kn_3] at this
  exact this.mono fun e w' ⟨k1, k2, k3⟩ => ⟨k1, k2, ((Below.refl lo w).alloc (by omega) _).trans k3⟩
theorem kc_4 (h : Has lo w p (kn [1, 2, 3] [⟨0, false, 0, [1, 2, 3]⟩] 3)) : Calls Tryz.prog 37 #[.pointer (some ⟨p, 0, none⟩), .string ⟨#[97]⟩, .int .i64 4, .slice none 0 0] w fun e w' => e = .returned (.int .i64 2) ∧ Has lo w' p (kn [1, 2, 3] [⟨0, false, 0, [1, 2, 3]⟩] 4) ∧ Below lo w w' := by
  have := h.put (k := [97]) (by decide) (at_ := 4) (l := []) (xa := none) (xc := 0) (RowAt.nil _ _) (by simp) (by decide) (by decide) kn_ok3 (by decide)
  rw [kn_4] at this
  exact this
theorem kc_5 (h : Has lo w p (kn [1, 2, 3] [⟨0, false, 0, [1, 2, 3]⟩] 4)) : Calls Tryz.prog 37 #[.pointer (some ⟨p, 0, none⟩), .string ⟨#[97]⟩, .int .i64 3, .slice (some ⟨w.heap.size, 0, none⟩) 4 4] (w.alloc (.cells #[.int .u8 4, .int .u8 5, .int .u8 6, .int .u8 7] 5)) fun e w' => e = .returned (.int .i64 5) ∧ Has lo w' p (kn [1, 2, 3] [⟨0, false, 0, [1, 2, 3]⟩] 5) ∧ Below lo w w' := by
  have hlo := h.lo
  have := (h.below (below_alloc w (.cells #[.int .u8 4, .int .u8 5, .int .u8 6, .int .u8 7] 5))).put (k := [97]) (by decide) (at_ := 3) (l := [4, 5, 6, 7]) (xc := 4) (row_built w _ _) (by simp) (by decide) (by decide) kn_ok4 (by decide)
  rw [kn_5] at this
  exact this.mono fun e w' ⟨k1, k2, k3⟩ => ⟨k1, k2, ((Below.refl lo w).alloc (by omega) _).trans k3⟩
theorem kc_6 (h : Has lo w p (kn [1, 2, 3] [⟨0, false, 0, [1, 2, 3]⟩] 5)) : Calls Tryz.prog 10 #[.pointer (some ⟨p, 0, none⟩), .agg #[.int .i64 9, .slice (some ⟨w.heap.size, 0, none⟩) 1 1, .int .i64 2]] (w.alloc (.cells #[.bool true] 4)) fun e w' => ∃ po, e = .returned (.pointer (some ⟨po, 0, none⟩)) ∧ Has w.heap.size w' po (DSt.ofFiles 6 [([97], [1, 2])]) ∧ Below w.heap.size w w' := by
  have := (h.below (below_alloc w (.cells #[.bool true] 4))).stop (names := 9) (torn := 2) (keep := [true]) (kc := 1) (by decide) (row_built w _ _) (by decide) kn_ok5 (by decide)
  rw [kn_6] at this
  exact this.mono fun e w' ⟨po, k1, ⟨own, R, k2, k2'⟩, k3⟩ => ⟨po, k1, ⟨own, R, k2, fun b hb => by have := k2' b hb; rw [World.size_alloc] at this; omega⟩, ((below_alloc w _).trans (k3.mono (by simp)))⟩
theorem kc_7 (h : Has lo w p (kn [1, 2, 3] [⟨0, false, 0, [1, 2, 3]⟩] 5)) : Calls Tryz.prog 65 #[.pointer (some ⟨p, 0, none⟩)] w fun e w' => e = .returned (.int .i64 3) ∧ Below w.heap.size w w' := by
  have := h.room kn_ok5 (by decide)
  rw [kn_9] at this
  exact this
theorem kc_8 (h : Has lo w p (DSt.ofFiles 6 [([97], [1, 2])])) : Calls Tryz.prog 14 #[.pointer (some ⟨p, 0, none⟩)] w fun e w' => ∃ a c, e = .returned (.slice a 1 c) ∧ FilesRd w' a [([97], [1, 2])] ∧ Below w.heap.size w w' := by
  have := h.files kn_ok6 (by decide)
  rw [kn_8] at this
  exact this.mono fun e w' ⟨v, cs, k1, k2, k3⟩ => by
    obtain ⟨a, c, rfl, hr⟩ := FilesRd.of_at k2
    exact ⟨a, c, k1, hr, k3⟩
theorem kc_9 (h : Has lo w p (kn [1, 2, 3] [⟨0, false, 0, [1, 2, 3]⟩] 5)) : Calls Tryz.prog 51 #[.pointer (some ⟨p, 0, none⟩), .string ⟨#[97]⟩, .int .i64 1, .int .i64 9] w fun e w' => ∃ a c, e = .returned (.tuple #[.slice a 2 c, .int .i64 0]) ∧ RowAt w' a [bv 2, bv 3] ∧ Below w.heap.size w w' := by
  have := h.read (k := [97]) (by decide) (at_ := 1) (n := 9) (by decide) kn_ok5 (by decide)
  rw [kn_7] at this
  exact this.mono fun e w' ⟨U, k1, k2, k3⟩ => by
    obtain ⟨a, c, rfl, _, _, hr, _⟩ := k2
    exact ⟨a, c, k1, hr, k3⟩
theorem kc_F {a : Option Addr} {c : Nat} (h : FilesRd w a [([97], [1, 2])]) : Calls Tryz.prog 13 #[.slice a 1 c, .slice (some ⟨w.heap.size + 1, 0, none⟩) 1 1]
    ((w.alloc (.cells #[.int .u8 1, .int .u8 2] 5)).alloc (.cells #[.string ⟨#[97]⟩, .slice (some ⟨w.heap.size, 0, none⟩) 2 2] 56)) fun e w' => e = .returned (.bool true) ∧ Below w.heap.size w w' := by
  have hb : Below w.heap.size w ((w.alloc (.cells #[.int .u8 1, .int .u8 2] 5)).alloc (.cells #[.string ⟨#[97]⟩, .slice (some ⟨w.heap.size, 0, none⟩) 2 2] 56)) := (below_alloc w _).alloc (by simp) _
  have h2 : FilesRd ((w.alloc (.cells #[.int .u8 1, .int .u8 2] 5)).alloc (.cells #[.string ⟨#[97]⟩, .slice (some ⟨w.heap.size, 0, none⟩) 2 2] 56)) (some ⟨w.heap.size + 1, 0, none⟩) [([97], [1, 2])] := fun _ => by
    have hr := (row_built w #[.int .u8 1, .int .u8 2] 5).below (below_alloc (w.alloc (.cells #[.int .u8 1, .int .u8 2] 5)) (.cells #[.string ⟨#[97]⟩, .slice (some ⟨w.heap.size, 0, none⟩) 2 2] 56))
    have c0 := cell_new (w.alloc (.cells #[.int .u8 1, .int .u8 2] 5)) #[.string ⟨#[97]⟩, .slice (some ⟨w.heap.size, 0, none⟩) 2 2] 56 0 _ rfl
    have c1 := cell_new (w.alloc (.cells #[.int .u8 1, .int .u8 2] 5)) #[.string ⟨#[97]⟩, .slice (some ⟨w.heap.size, 0, none⟩) 2 2] 56 1 _ rfl
    rw [World.size_alloc] at c0 c1
    refine ⟨w.heap.size + 1, 0, rfl, fun i d hd => ?_⟩
    cases i with
    | zero =>
      obtain rfl : d = ([97], [1, 2]) := by simpa using hd.symm
      exact ⟨c0, _, _, c1, hr⟩
    | succ i => simp at hd
  exact (SameFiles_any (h.below hb) h2 (by decide)).mono fun e w' ⟨k1, k2⟩ => ⟨k1, hb.trans (k2.mono (by simp; omega))⟩
theorem kc_N1 : Calls Tryz.prog 29 #[.string ⟨#[97, 46, 49, 45, 98]⟩] w fun e w' => e = .returned (.bool true) ∧ w = w' := by
  have := Name_any [97, 46, 49, 45, 98] w (by decide)
  rw [ok_a1b] at this
  exact this
theorem kc_N2 : Calls Tryz.prog 29 #[.string ⟨#[65]⟩] w fun e w' => e = .returned (.bool false) ∧ w = w' := by
  have := Name_any [65] w (by decide)
  rw [ok_A] at this
  exact this
end

end Go.Proofs.YtgckcnnnblggbaaGreat
/- Disk: known, walked. -/
namespace Go.Proofs.YtgckcnnnblggbaaGreat
open Go.RowKit Go.Maps
set_option maxRecDepth 100000 in
set_option maxHeartbeats 1000000 in
theorem known_any (w : World) : Calls Tryz.prog 16 #[] w fun e w' => e = .returned (.bool true) ∧ Below w.heap.size w w' := by
  have c0 := Has.new (cap := 6) (by decide) w
  have cN := num_any
  go_enter Tryz.func16, Tryz.ntmps16
  go_wp2_with (first
    | (go_at_call 8; refine (cN _ _).mono ?_; rintro _ wn ⟨rfl, rfl⟩)
    | (go_at_call 51; refine (kc_9 HDc).mono ?_; rintro _ wd ⟨ra, rc, rfl, hrr, BD⟩
       have hcv1 : (convert 36 9 (.slice ra 2 rc)).run Tryz.prog wd = .ok (.string ⟨#[2, 3]⟩) wd := run_conv (P := Tryz.prog) 36 9 5 Tryz.underlying36 Tryz.underlying5 Tryz.underlying9 (c := rc) (l := [2, 3]) hrr
       have hcv2 : (convert 36 9 (.slice (some ⟨wd.heap.size, 0, none⟩) 2 2)).run Tryz.prog (wd.alloc (.cells #[.int .u8 2, .int .u8 3] 5)) = .ok (.string ⟨#[2, 3]⟩) (wd.alloc (.cells #[.int .u8 2, .int .u8 3] 5)) := run_conv (P := Tryz.prog) 36 9 5 Tryz.underlying36 Tryz.underlying5 Tryz.underlying9 (c := 2) (l := [2, 3]) (row_built wd #[.int .u8 2, .int .u8 3] _))
    | (go_at_call 29; with_reducible refine kc_N1.mono ?_; rintro _ we ⟨rfl, rfl⟩)
    | (go_at_call 29; with_reducible refine kc_N2.mono ?_; rintro _ we ⟨rfl, rfl⟩)
    | (go_at_call 13; refine (kc_F hfr).mono ?_; rintro _ wc ⟨rfl, BC⟩; have HDc := ((HD8.below BA).below BB).below BC)
    | (go_at_call 14; refine (kc_8 HS).mono ?_; rintro _ wb ⟨fa, fc, rfl, hfr, BB⟩)
    | (go_at_call 65; refine (kc_7 HD8).mono ?_; rintro _ wa ⟨rfl, BA⟩; have HS := HS8.below BA)
    | (go_at_call 64; refine HD8.steps.mono ?_; rintro _ w9 ⟨rfl, rfl⟩)
    | (go_at_call 10; refine (kc_6 H7).mono ?_; rintro _ w8 ⟨po, rfl, HS8, B7⟩; have HD8 := H7.below B7)
    | (go_at_call 17; refine H5.pending.mono ?_; rintro _ w7 ⟨rfl, B6⟩; have H7 := H5.below B6)
    | (go_at_call 37; refine (kc_5 H4).mono ?_; rintro _ w6 ⟨rfl, H5, B5⟩)
    | (go_at_call 37; refine (kc_4 H3).mono ?_; rintro _ w5 ⟨rfl, H4, B4⟩)
    | (go_at_call 37; refine (kc_3 H2).mono ?_; rintro _ w4 ⟨rfl, H3, B3⟩)
    | (go_at_call 34; refine (kc_2 H1).mono ?_; rintro _ w3 ⟨rfl, H2, B2⟩)
    | (go_at_call 34; refine (kc_1 H0).mono ?_; rintro _ w2 ⟨rfl, H1, B1⟩)
    | (go_at_call 22; refine c0.mono ?_; rintro _ w1 ⟨p, rfl, H0, B0⟩)
    )
  go_ret
  refine ⟨rfl, ?_⟩
  have k6 := ((((B0.trans B1).trans B2).trans B3).trans B4).trans B5
  have k7 := k6.trans (B6.mono k6.size)
  have k8 := k7.trans (B7.mono k7.size)
  have ka := k8.trans (BA.mono k8.size)
  have kb := ka.trans (BB.mono ka.size)
  have kc := kb.trans (BC.mono kb.size)
  have kd := kc.trans (BD.mono kc.size)
  exact kd.alloc kd.size _

end Go.Proofs.YtgckcnnnblggbaaGreat
