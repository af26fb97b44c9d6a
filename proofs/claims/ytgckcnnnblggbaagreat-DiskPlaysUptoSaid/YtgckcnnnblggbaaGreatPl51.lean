/- Texts of this claim, one behind the other: ReM. -/
import Derived.Test.YtgckcnnnblggbaaGreatPl49
import Derived.Handy
import Derived.Test.YtgckcnnnblggbaaGreatBulk
import Derived.Deep.SlicePairs
import Derived.Deep.Grids
set_option linter.unusedSimpArgs false
set_option linter.unusedVariables false
/- Disk: what is handed in, opened: bytes, bools, files, steps; and its bulk. -/
namespace Go.Proofs.YtgckcnnnblggbaaGreat
open Go.RowKit Go.Maps Go.ChangeShapes Go.WideShapes Go.Deep
set_option maxRecDepth 1000000

theorem row_of_cells {w : World} {a : Addr} {n : Nat} {V : Nat → Value} (h : ∀ i, i < n → w.cell? (a.add i) = some (V i)) : RowAt w (some a) ((List.range n).map V) := fun hne => by
  have hn : 0 < n := by
    rcases Nat.eq_zero_or_pos n with h0 | h0
    · subst h0; simp at hne
    · exact h0
  obtain ⟨b, off, spot⟩ := a
  have h0 := World.cell?_spot (h 0 hn)
  have hspot : spot = none := by simpa [Addr.add] using h0
  subst hspot
  refine ⟨b, off, rfl, fun j u hu => ?_⟩
  rw [List.getElem?_map] at hu
  obtain ⟨i, hi, rfl⟩ := Option.map_eq_some_iff.1 hu
  obtain ⟨hj, hij⟩ := List.getElem?_eq_some_iff.1 hi
  simp at hj hij
  subst hij
  rw [← Go.WideShapes.add_plain]
  exact h j hj

section
variable {H : Type} {enc : TypeId × Value → H} {w : World} {base : Nat} {held : Bool}

theorem op_bytes {fuel : Nat} {v : Value} {x : DataW H × List MemPlace} (h : DataW.trod enc Tryz.prog w base (fun _ => true) held fuel 36 [v] = some x) :
    ∃ a c, ∃ l : List UInt8, v = .slice a l.length c ∧ (a = none → c = 0) ∧ RowAt w a (l.map bv) ∧ l.length + 1 ≤ Rows.uptoBulk x.1 := by
  rcases open_slice1 Tryz.underlying36 (by kernel_rfl) h with ⟨hcs, rfl⟩ | ⟨a, len, cap, m, n, V, D, Pl, hcs, hb, hl, hm, hmm, rfl, hel⟩
  · simp only [List.cons.injEq, and_true] at hcs
    subst hcs
    exact ⟨none, 0, [], rfl, fun _ => rfl, RowAt.nil _ _, by simp [Rows.uptoBulk]⟩
  · simp only [List.cons.injEq, and_true] at hcs
    subst hcs
    simp only [if_true] at hmm
    subst hmm
    obtain ⟨B, hB⟩ := choose_lt (α := UInt8) (p := fun i b => V i = bv b) (fun i hi => by
      obtain ⟨c, h1, _, h3⟩ := DataW.trod_int Tryz.underlying5 (hel i hi).2
      have h4 := u8_of_wf h3
      simp only [List.cons.injEq, and_true] at h1
      refine ⟨UInt8.ofNat c.toNat, ?_⟩
      rw [h1]
      unfold bv
      congr 1
      rw [UInt8.toNat_ofNat']
      omega)
    refine ⟨some a, m, (List.range len).map B, by simp, fun h => (by cases h), ?_, ?_⟩
    · have hr := row_of_cells (w := w) (a := a) (n := len) (V := fun i => bv (B i)) (fun i hi => by rw [(hel i (by omega)).1, hB i (by omega)])
      rw [List.map_map]
      exact hr
    · have := bulks.slice_le ((List.range len).map D) ((List.range (m - len)).map fun j => D (len + j))
      simp at this
      simp
      omega

theorem op_bools {fuel : Nat} {v : Value} {x : DataW H × List MemPlace} (h : DataW.trod enc Tryz.prog w base (fun _ => true) held fuel 37 [v] = some x) :
    ∃ a c, ∃ l : List Bool, v = .slice a l.length c ∧ RowAt w a (l.map Value.bool) ∧ l.length ≤ maxLen := by
  rcases open_bools Tryz.underlying37 Tryz.underlying4 (by kernel_rfl) h with ⟨hcs, rfl⟩ | ⟨a, len, cap, B, hcs, hb, hl, hm, rfl, hel⟩
  · simp only [List.cons.injEq, and_true] at hcs
    subst hcs
    exact ⟨none, 0, [], rfl, RowAt.nil _ _, by unfold maxLen; simp⟩
  · simp only [List.cons.injEq, and_true] at hcs
    subst hcs
    refine ⟨some a, cap, (List.range len).map B, by simp, ?_, by simp; omega⟩
    have hr := row_of_cells (w := w) (a := a) (n := len) (V := fun i => .bool (B i)) (fun i hi => hel i (by omega))
    rw [List.map_map]
    exact hr

theorem bulk_sum {n : Nat} {D : Nat → DataW H} {f : Nat → Nat} (h : ∀ i, i < n → f i + 1 ≤ Rows.uptoBulk (D i)) : n + ((List.range n).map f).sum ≤ Rows.uptoBulkAll ((List.range n).map D) := by
  induction n with
  | zero => simp [Rows.uptoBulkAll]
  | succ n ih =>
    have h1 := ih (fun i hi => h i (by omega))
    have h2 := h n (by omega)
    rw [List.range_succ, List.map_append, List.map_append, List.sum_append, bulks.append]
    simp [Rows.uptoBulkAll]
    omega
instance : Inhabited (List UInt8 × List UInt8) := ⟨([], [])⟩
theorem op_files {fuel : Nat} {v : Value} {x : DataW H × List MemPlace} (h : DataW.trod enc Tryz.prog w base (fun _ => true) held fuel 22 [v] = some x) :
    ∃ a c, ∃ L : List (List UInt8 × List UInt8), v = .slice a L.length c ∧ FilesArg w a L ∧ (∀ p ∈ L, p.1.length ≤ maxLen) ∧ L.length + (L.map fun p => p.2.length).sum + 1 ≤ Rows.uptoBulk x.1 := by
  rcases open_slice_pairs Tryz.underlying22 Tryz.underlying56 (by kernel_rfl) rfl rfl (by kernel_rfl) (by kernel_rfl) h with ⟨hcs, rfl⟩ | ⟨a, len, cap, m, n, V0, V1, D0, D1, P0, P1, hcs, hb, hl, hm, hmm, rfl, hel⟩
  · simp only [List.cons.injEq, and_true] at hcs
    subst hcs
    exact ⟨none, 0, [], rfl, fun h => absurd rfl h, fun p hp => (by cases hp), by simp [Rows.uptoBulk]⟩
  · simp only [List.cons.injEq, and_true] at hcs
    subst hcs
    simp only [if_true] at hmm
    subst hmm
    obtain ⟨B, hB⟩ := choose_lt (α := List UInt8 × List UInt8) (p := fun i b => V0 i = sv b.1 ∧ b.1.length ≤ maxLen ∧ (∃ ua uc, V1 i = .slice ua b.2.length uc ∧ (ua = none → uc = 0) ∧ RowAt w ua (b.2.map bv)) ∧ b.2.length + 1 ≤ Rows.uptoBulk (DataW.agg [D0 i, D1 i])) (fun i hi => by
      obtain ⟨_, _, h0, h1⟩ := hel i hi
      obtain ⟨s, e1, _, e3⟩ := DataW.trod_string Tryz.underlying9 h0
      obtain ⟨ua, uc, l, f1, f2, f3, f4⟩ := op_bytes h1
      simp only [List.cons.injEq, and_true] at e1
      refine ⟨(s.data.toList, l), by rw [e1]; show Value.string s = .string ⟨s.data.toList.toArray⟩; rw [Array.toArray_toList], by show s.data.toList.length ≤ maxLen; rw [Array.length_toList]; exact e3, ⟨ua, uc, f1, f2, f3⟩, ?_⟩
      simp only [Rows.uptoBulk, Rows.uptoBulkAll] at f4 ⊢
      omega)
    refine ⟨some a, m, (List.range len).map B, by simp, fun hne => ?_, fun p hp => ?_, ?_⟩
    · have hn : 0 < len := by
        rcases Nat.eq_zero_or_pos len with h0 | h0
        · subst h0; simp at hne
        · exact h0
      obtain ⟨b, off, spot⟩ := a
      have h0 := World.cell?_spot (hel 0 (by omega)).1
      have hspot : spot = none := by simpa [Addr.add] using h0
      subst hspot
      refine ⟨b, off, rfl, fun i d hd => ?_⟩
      rw [List.getElem?_map] at hd
      obtain ⟨j, hj, rfl⟩ := Option.map_eq_some_iff.1 hd
      obtain ⟨hjl, hij⟩ := List.getElem?_eq_some_iff.1 hj
      simp at hjl hij
      subst hij
      obtain ⟨c0, c1, _, _⟩ := hel i (by omega)
      obtain ⟨q1, _, ⟨ua, uc, q2, q3, q4⟩, _⟩ := hB i (by omega)
      rw [Go.WideShapes.add_plain, q1] at c0
      rw [Go.WideShapes.add_plain, q2] at c1
      exact ⟨c0, ua, uc, by rw [Nat.add_assoc]; exact c1, q3, q4⟩
    · obtain ⟨i, hi, rfl⟩ := List.mem_map.1 hp
      exact (hB i (by have := List.mem_range.1 hi; omega)).2.1
    · have hs := bulk_sum (n := len) (D := fun i => DataW.agg [D0 i, D1 i]) (f := fun i => (B i).2.length) (fun i hi => (hB i (by omega)).2.2.2)
      have he := bulks.slice_elems ((List.range len).map fun i => DataW.agg [D0 i, D1 i]) ((List.range (m - len)).map fun j => DataW.agg [D0 (len + j), D1 (len + j)])
      simp only [List.length_map, List.length_range, List.map_map]
      have e : ((fun p : List UInt8 × List UInt8 => p.2.length) ∘ B) = fun i => (B i).2.length := rfl
      rw [e]
      omega
end

section
variable {H : Type} {enc : TypeId × Value → H} {w : World} {base : Nat} {held : Bool}
theorem c_int : Tryz.prog.cellsOf 3 = 1 := by kernel_rfl
theorem c_i64 : Tryz.prog.cellsOf 2 = 1 := by kernel_rfl
theorem c_str : Tryz.prog.cellsOf 9 = 1 := by kernel_rfl
theorem c_byt : Tryz.prog.cellsOf 36 = 1 := by kernel_rfl
theorem c_bol : Tryz.prog.cellsOf 37 = 1 := by kernel_rfl
theorem c_stp : Tryz.prog.cellsOf 39 = 3 := by kernel_rfl
theorem c_step : Tryz.prog.cellsOf 41 = 10 := by kernel_rfl

theorem op_astep {fuel : Nat} {cs : List Value} {x : DataW H × List MemPlace} (h : DataW.trod enc Tryz.prog w base (fun _ => true) held fuel 41 cs = some x) :
    ∃ (X : AStep) (da ka : Option Addr) (dc kc : Nat), cs = (encA X da dc ka kc).toList ∧
      (da = none → dc = 0) ∧ RowAt w da (X.data.map bv) ∧ RowAt w ka (X.keep.map Value.bool) ∧ (-9223372036854775808 ≤ X.at_ ∧ X.at_ < 9223372036854775808) ∧ (-9223372036854775808 ≤ X.n ∧ X.n < 9223372036854775808) ∧ X.name.length ≤ maxLen ∧ X.dst.length ≤ maxLen ∧ X.data.length + 1 ≤ Rows.uptoBulk x.1 ∧ X.keep.length ≤ maxLen ∧ X.st < 9223372036854775808 ∧ (-9223372036854775808 ≤ X.who ∧ X.who < 9223372036854775808) := by
  obtain ⟨xs, k, _, hxy, hl, hxl, hf⟩ := DataW.trod_struct Tryz.underlying41 h
  rw [c_step] at hl
  match xs, hxl, cs, hl with
  | [y0, y1, y2, y3, y4, y5, y6, y7], _, [v0, v1, v2, v3, v4, v5, v6, v7, v8, v9], _ =>
    have g0 := hf 0 _ rfl
    have g1 := hf 1 _ rfl
    have g2 := hf 2 _ rfl
    have g3 := hf 3 _ rfl
    have g4 := hf 4 _ rfl
    have g5 := hf 5 _ rfl
    have g6 := hf 6 _ rfl
    have g7 := hf 7 _ rfl
    simp only [List.getElem_toArray, List.getElem_cons_zero, List.getElem_cons_succ, c_int, c_i64, c_str, c_byt, c_stp, List.drop, List.take, List.getElem?_cons_zero, List.getElem?_cons_succ] at g0 g1 g2 g3 g4 g5 g6 g7
    obtain ⟨kind, e0, _, _⟩ := DataW.trod_int Tryz.underlying3 g0
    obtain ⟨who, e1, _, w1⟩ := DataW.trod_int Tryz.underlying3 g1
    obtain ⟨s2, e2, _, l2⟩ := DataW.trod_string Tryz.underlying9 g2
    obtain ⟨s3, e3, _, l3⟩ := DataW.trod_string Tryz.underlying9 g3
    obtain ⟨at_, e4, _, w4⟩ := DataW.trod_int Tryz.underlying2 g4
    obtain ⟨n, e5, _, w5⟩ := DataW.trod_int Tryz.underlying3 g5
    obtain ⟨da, dc, l, e6, hn, hr, hbk⟩ := op_bytes g6
    obtain ⟨zs, k2, _, _, hl2, hzl, hz⟩ := DataW.trod_struct Tryz.underlying39 g7
    match zs, hzl with
    | [z0, z1, z2], _ =>
      have q0 := hz 0 _ rfl
      have q1 := hz 1 _ rfl
      have q2 := hz 2 _ rfl
      simp only [List.getElem_toArray, List.getElem_cons_zero, List.getElem_cons_succ, c_int, c_bol, List.drop, List.take, List.getElem?_cons_zero, List.getElem?_cons_succ] at q0 q1 q2
      obtain ⟨sn, e7, _, _⟩ := DataW.trod_int Tryz.underlying3 q0
      obtain ⟨ka, kc, kl, e8, hkr, hkl⟩ := op_bools q1
      obtain ⟨st, e9, _, w9⟩ := DataW.trod_int Tryz.underlying3 q2
      have e0 := (List.cons.inj e0).1
      have e1 := (List.cons.inj e1).1
      have e2 := (List.cons.inj e2).1
      have e3 := (List.cons.inj e3).1
      have e4 := (List.cons.inj e4).1
      have e5 := (List.cons.inj e5).1
      have e7 := (List.cons.inj e7).1
      have e9 := (List.cons.inj e9).1
      have h64 := i64_of_wf w4
      have hn64 := i64_of_wf w5
      have hw64 := i64_of_wf w1
      have hst := i64_of_wf w9
      refine ⟨⟨kind, who, s2.data.toList, s3.data.toList, at_, n, l, sn, kl, st⟩, da, ka, dc, kc, ?_, hn, hr, hkr, by simp only; omega, by simp only; omega, by show s2.data.toList.length ≤ maxLen; rw [Array.length_toList]; exact l2, by show s3.data.toList.length ≤ maxLen; rw [Array.length_toList]; exact l3, ?_, hkl, by simp only; omega, by simp only; omega⟩
      · subst e0 e1 e2 e3 e4 e5 e6 e7 e8 e9
        have t2 : (⟨s2.data.toList.toArray⟩ : ByteArray) = s2 := by rw [Array.toArray_toList]
        have t3 : (⟨s3.data.toList.toArray⟩ : ByteArray) = s3 := by rw [Array.toArray_toList]
        show [Value.int .i64 kind, .int .i64 who, .string s2, .string s3, .int .i64 at_, .int .i64 n, .slice da l.length dc, .int .i64 sn, .slice ka kl.length kc, .int .i64 st] = [Value.int .i64 kind, .int .i64 who, .string ⟨s2.data.toList.toArray⟩, .string ⟨s3.data.toList.toArray⟩, .int .i64 at_, .int .i64 n, .slice da l.length dc, .int .i64 sn, .slice ka kl.length kc, .int .i64 st]
        rw [t2, t3]
      · rw [hxy]
        simp only [List.map_cons, List.map_nil, Rows.uptoBulk, Rows.uptoBulkAll]
        omega

instance : Inhabited AStep := ⟨⟨0, 0, [], [], 0, 0, [], 0, [], 0⟩⟩
instance : Inhabited AStop := ⟨⟨0, [], 0⟩⟩
/-- what is known of a step behind its bounds -/
def AStep.More (x : AStep) : Prop := x.keep.length ≤ maxLen ∧ x.st < 9223372036854775808 ∧ (-9223372036854775808 ≤ x.who ∧ x.who < 9223372036854775808)
theorem op_asteps {fuel : Nat} {v : Value} {x : DataW H × List MemPlace} (h : DataW.trod enc Tryz.prog w base (fun _ => true) held fuel 25 [v] = some x) (hbk : Rows.uptoBulk x.1 ≤ 1048576) :
    ∃ a c, ∃ xs : List AStep, v = .slice a xs.length c ∧ AStepsArg w a xs ∧ (∀ x ∈ xs, x.Ok ∧ x.More) ∧ xs.length + 1 ≤ Rows.uptoBulk x.1 := by
  rcases open_slice Tryz.underlying25 h with ⟨hcs, rfl⟩ | ⟨a, len, cap, m, n, D, Pl, hcs, hb, hl, hm, hmm, rfl, hel⟩
  · simp only [List.cons.injEq, and_true] at hcs
    subst hcs
    exact ⟨none, 0, [], rfl, fun h => absurd rfl h, fun p hp => (by cases hp), by simp [Rows.uptoBulk]⟩
  · simp only [List.cons.injEq, and_true] at hcs
    subst hcs
    simp only [if_true] at hmm
    subst hmm
    rw [c_step] at hel
    obtain ⟨B, hB⟩ := choose_lt (α := AStep) (p := fun i X => (∃ (da ka : Option Addr) (dc kc : Nat), (∀ j u, (encA X da dc ka kc)[j]? = some u → w.cell? (a.add (i * 10 + j)) = some u) ∧ (da = none → dc = 0) ∧ RowAt w da (X.data.map bv) ∧ RowAt w ka (X.keep.map Value.bool)) ∧
        (-9223372036854775808 ≤ X.at_ ∧ X.at_ < 9223372036854775808) ∧ (-9223372036854775808 ≤ X.n ∧ X.n < 9223372036854775808) ∧ X.name.length ≤ maxLen ∧ X.dst.length ≤ maxLen ∧ X.data.length + 1 ≤ Rows.uptoBulk (D i) ∧ X.keep.length ≤ maxLen ∧ X.st < 9223372036854775808 ∧ (-9223372036854775808 ≤ X.who ∧ X.who < 9223372036854775808)) (fun i hi => by
      obtain ⟨cs', h1, h2⟩ := hel i hi
      obtain ⟨_, hlen, hcell⟩ := World.cells?_some h1
      obtain ⟨X, da, ka, dc, kc, hcs, k1, k2, k2', k3, k3', k4, k5, k6, k7, k8⟩ := op_astep h2
      refine ⟨X, ⟨da, ka, dc, kc, fun j u hu => ?_, k1, k2, k2'⟩, k3, k3', k4, k5, k6, k7, k8⟩
      rw [← Array.getElem?_toList, ← hcs] at hu
      have hj : j < 10 := by rw [← hlen]; exact (List.getElem?_eq_some_iff.1 hu).1
      have := hcell j hj
      rw [Go.Deep.add_add] at this
      rw [this, hu])
    have hs := bulk_sum (n := len) (D := D) (f := fun i => (B i).data.length) (fun i hi => (hB i (by omega)).2.2.2.2.2.1)
    have he := bulks.slice_elems ((List.range len).map D) ((List.range (m - len)).map fun j => D (len + j))
    refine ⟨some a, m, (List.range len).map B, by simp, fun hne => ?_, fun p hp => ?_, ?_⟩
    · have hn : 0 < len := by
        rcases Nat.eq_zero_or_pos len with h0 | h0
        · subst h0; simp at hne
        · exact h0
      obtain ⟨b, off, spot⟩ := a
      obtain ⟨⟨da, ka, dc, kc, hc0, _⟩, _⟩ := hB 0 (by omega)
      have h0 := World.cell?_spot (hc0 0 _ rfl)
      have hspot : spot = none := by simpa [Addr.add] using h0
      subst hspot
      refine ⟨b, off, rfl, fun i d hd => ?_⟩
      rw [List.getElem?_map] at hd
      obtain ⟨j, hj, rfl⟩ := Option.map_eq_some_iff.1 hd
      obtain ⟨hjl, hij⟩ := List.getElem?_eq_some_iff.1 hj
      simp at hjl hij
      subst hij
      obtain ⟨⟨da, ka, dc, kc, hc, k1, k2, k3⟩, _⟩ := hB i (by omega)
      refine ⟨da, ka, dc, kc, fun j u hu => ?_, k1, k2, k3⟩
      have := hc j u hu
      rw [Go.WideShapes.add_plain, ← Nat.add_assoc] at this
      exact this
    · obtain ⟨i, hi, rfl⟩ := List.mem_map.1 hp
      obtain ⟨_, k3, k3', k4, k5, k6, k7, k8⟩ := hB i (by have := List.mem_range.1 hi; omega)
      have hmem : Rows.uptoBulk (D i) ≤ Rows.uptoBulkAll ((List.range len).map D) := bulks.part_le (List.mem_map.2 ⟨i, hi, rfl⟩)
      simp only at hbk
      exact ⟨⟨k4, k5, k3, k3', by omega⟩, k7, k8⟩
    · simp only [List.length_map, List.length_range]
      omega

theorem op_astop {fuel : Nat} {cs : List Value} {x : DataW H × List MemPlace} (h : DataW.trod enc Tryz.prog w base (fun _ => true) held fuel 39 cs = some x) :
    ∃ (X : AStop) (ka : Option Addr) (kc : Nat), cs = [.int .i64 X.names, .slice ka X.keep.length kc, .int .i64 X.torn] ∧ RowAt w ka (X.keep.map Value.bool) ∧ X.keep.length ≤ maxLen ∧ X.torn < 9223372036854775808 := by
  obtain ⟨zs, k2, _, _, hl2, hzl, hz⟩ := DataW.trod_struct Tryz.underlying39 h
  rw [c_stp] at hl2
  match zs, hzl, cs, hl2 with
  | [z0, z1, z2], _, [v0, v1, v2], _ =>
    have q0 := hz 0 _ rfl
    have q1 := hz 1 _ rfl
    have q2 := hz 2 _ rfl
    simp only [List.getElem_toArray, List.getElem_cons_zero, List.getElem_cons_succ, c_int, c_bol, List.drop, List.take, List.getElem?_cons_zero, List.getElem?_cons_succ] at q0 q1 q2
    obtain ⟨sn, e7, _, _⟩ := DataW.trod_int Tryz.underlying3 q0
    obtain ⟨ka, kc, kl, e8, hkr, hkl⟩ := op_bools q1
    obtain ⟨st, e9, _, w9⟩ := DataW.trod_int Tryz.underlying3 q2
    have e7 := (List.cons.inj e7).1
    have e9 := (List.cons.inj e9).1
    have hst := i64_of_wf w9
    subst e7 e8 e9
    exact ⟨⟨sn, kl, st⟩, ka, kc, rfl, hkr, hkl, by simp only; omega⟩
theorem op_astops {fuel : Nat} {v : Value} {x : DataW H × List MemPlace} (h : DataW.trod enc Tryz.prog w base (fun _ => true) held fuel 26 [v] = some x) (hbk : Rows.uptoBulk x.1 ≤ 1048576) :
    ∃ a c, ∃ xs : List AStop, v = .slice a xs.length c ∧ AStopsArg w a xs ∧ (∀ x ∈ xs, x.keep.length ≤ maxLen ∧ x.torn < 9223372036854775808) ∧ xs.length ≤ maxLen := by
  rcases open_slice Tryz.underlying26 h with ⟨hcs, rfl⟩ | ⟨a, len, cap, m, n, D, Pl, hcs, hb, hl, hm, hmm, rfl, hel⟩
  · simp only [List.cons.injEq, and_true] at hcs
    subst hcs
    exact ⟨none, 0, [], rfl, fun h => absurd rfl h, fun p hp => (by cases hp), Nat.zero_le _⟩
  · simp only [List.cons.injEq, and_true] at hcs
    subst hcs
    simp only [if_true] at hmm
    subst hmm
    rw [c_stp] at hel
    obtain ⟨B, hB⟩ := choose_lt (α := AStop) (p := fun i X => (∃ (ka : Option Addr) (kc : Nat), (∀ j u, ([.int .i64 X.names, .slice ka X.keep.length kc, .int .i64 X.torn] : List Value)[j]? = some u → w.cell? (a.add (i * 3 + j)) = some u) ∧ RowAt w ka (X.keep.map Value.bool)) ∧ X.keep.length ≤ maxLen ∧ X.torn < 9223372036854775808) (fun i hi => by
      obtain ⟨cs', h1, h2⟩ := hel i hi
      obtain ⟨_, hlen, hcell⟩ := World.cells?_some h1
      obtain ⟨X, ka, kc, hcs, k1, k2, k3⟩ := op_astop h2
      refine ⟨X, ⟨ka, kc, fun j u hu => ?_, k1⟩, k2, k3⟩
      rw [← hcs] at hu
      have hj : j < 3 := by rw [← hlen]; exact (List.getElem?_eq_some_iff.1 hu).1
      have := hcell j hj
      rw [Go.Deep.add_add] at this
      rw [this, hu])
    refine ⟨some a, m, (List.range len).map B, by simp, fun hne => ?_, fun p hp => ?_, ?_⟩
    · have hn : 0 < len := by
        rcases Nat.eq_zero_or_pos len with h0 | h0
        · subst h0; simp at hne
        · exact h0
      obtain ⟨b, off, spot⟩ := a
      obtain ⟨⟨ka, kc, hc0, _⟩, _⟩ := hB 0 (by omega)
      have h0 := World.cell?_spot (hc0 0 _ rfl)
      have hspot : spot = none := by simpa [Addr.add] using h0
      subst hspot
      refine ⟨b, off, rfl, fun i d hd => ?_⟩
      rw [List.getElem?_map] at hd
      obtain ⟨j, hj, rfl⟩ := Option.map_eq_some_iff.1 hd
      obtain ⟨hjl, hij⟩ := List.getElem?_eq_some_iff.1 hj
      simp at hjl hij
      subst hij
      obtain ⟨⟨ka, kc, hc, k1⟩, _⟩ := hB i (by omega)
      have mv : ∀ (j : Nat) (u : Value), ([.int .i64 (B i).names, .slice ka (B i).keep.length kc, .int .i64 (B i).torn] : List Value)[j]? = some u → w.cell? ⟨b, off + i * 3 + j, none⟩ = some u := fun j u hu => by
        have := hc j u hu
        rw [Go.WideShapes.add_plain, ← Nat.add_assoc] at this
        exact this
      exact ⟨ka, kc, mv 0 _ rfl, mv 1 _ rfl, mv 2 _ rfl, k1⟩
    · obtain ⟨i, hi, rfl⟩ := List.mem_map.1 hp
      exact (hB i (by have := List.mem_range.1 hi; omega)).2
    · simp only [List.length_map, List.length_range]
      omega
end

end Go.Proofs.YtgckcnnnblggbaaGreat
