/- Texts of this claim, one behind the other: Opn, FaP. -/
import Derived.Test.YtehmnmpkfbginaaGreatFc17
import Derived.Test.YtehmnmpkfbginaaGreatBulk
import Derived.Deep.SlicePairs
import Derived.Deep.Grids
import Derived.Test.YtehmnmpkfbginaaGreatFc28
set_option linter.unusedSimpArgs false
set_option linter.unusedVariables false
/- What is handed in, opened: bytes, files. -/
namespace Go.Proofs.YtehmnmpkfbginaaGreat
open Go.RowKit Go.Maps Go.ChangeShapes Go.WideShapes Go.Deep
set_option maxRecDepth 1000000

theorem row_of_cells {w : World} {a : Addr} {n : Nat} {V : Nat → Value} (h : ∀ i, i < n → w.cell? (a.add i) = some (V i)) : RowAt w (some a) ((List.range n).map V) := fun hne => by
  have hn : 0 < n := by
    rcases Nat.eq_zero_or_pos n with h0 | h0
    · subst h0; simp at hne
    · exact h0
  obtain ⟨b, off, spot⟩ := a
  have h0 := World.cell?_spot (h 0 hn)
  have hspot : spot = none := by simpa [Addr.add] using h0
  subst hspot
  refine ⟨b, off, rfl, fun j u hu => ?_⟩
  rw [List.getElem?_map] at hu
  obtain ⟨i, hi, rfl⟩ := Option.map_eq_some_iff.1 hu
  obtain ⟨hj, hij⟩ := List.getElem?_eq_some_iff.1 hi
  simp at hj hij
  subst hij
  rw [← Go.WideShapes.add_plain]
  exact h j hj

section
variable {H : Type} {enc : TypeId × Value → H} {w : World} {base : Nat} {held : Bool}

theorem op_bytes {fuel : Nat} {v : Value} {x : DataW H × List MemPlace} (h : DataW.trod enc Tryz.prog w base (fun _ => true) held fuel 42 [v] = some x) :
    ∃ a c, ∃ l : List UInt8, v = .slice a l.length c ∧ (a = none → c = 0) ∧ RowAt w a (l.map bv) ∧ l.length + 1 ≤ Rows.uptoBulk x.1 := by
  rcases open_slice1 Tryz.underlying42 (by kernel_rfl) h with ⟨hcs, rfl⟩ | ⟨a, len, cap, m, n, V, D, Pl, hcs, hb, hl, hm, hmm, rfl, hel⟩
  · simp only [List.cons.injEq, and_true] at hcs
    subst hcs
    exact ⟨none, 0, [], rfl, fun _ => rfl, RowAt.nil _ _, by simp [Rows.uptoBulk]⟩
  · simp only [List.cons.injEq, and_true] at hcs
    subst hcs
    simp only [if_true] at hmm
    subst hmm
    obtain ⟨B, hB⟩ := choose_lt (α := UInt8) (p := fun i b => V i = bv b) (fun i hi => by
      obtain ⟨c, h1, _, h3⟩ := DataW.trod_int Tryz.underlying5 (hel i hi).2
      have h4 := u8_of_wf h3
      simp only [List.cons.injEq, and_true] at h1
      refine ⟨UInt8.ofNat c.toNat, ?_⟩
      rw [h1]
      unfold bv
      congr 1
      rw [UInt8.toNat_ofNat']
      omega)
    refine ⟨some a, m, (List.range len).map B, by simp, fun h => (by cases h), ?_, ?_⟩
    · have hr := row_of_cells (w := w) (a := a) (n := len) (V := fun i => bv (B i)) (fun i hi => by rw [(hel i (by omega)).1, hB i (by omega)])
      rw [List.map_map]
      exact hr
    · have := bulks.slice_le ((List.range len).map D) ((List.range (m - len)).map fun j => D (len + j))
      simp at this
      simp
      omega

theorem bulk_sum {n : Nat} {D : Nat → DataW H} {f : Nat → Nat} (h : ∀ i, i < n → f i + 1 ≤ Rows.uptoBulk (D i)) : n + ((List.range n).map f).sum ≤ Rows.uptoBulkAll ((List.range n).map D) := by
  induction n with
  | zero => simp [Rows.uptoBulkAll]
  | succ n ih =>
    have h1 := ih (fun i hi => h i (by omega))
    have h2 := h n (by omega)
    rw [List.range_succ, List.map_append, List.map_append, List.sum_append, bulks.append]
    simp [Rows.uptoBulkAll]
    omega
instance : Inhabited (List UInt8 × List UInt8) := ⟨([], [])⟩
theorem op_files {fuel : Nat} {v : Value} {x : DataW H × List MemPlace} (h : DataW.trod enc Tryz.prog w base (fun _ => true) held fuel 22 [v] = some x) :
    ∃ a c, ∃ L : List (List UInt8 × List UInt8), v = .slice a L.length c ∧ FilesArg w a L ∧ (∀ p ∈ L, p.1.length ≤ maxLen) ∧ L.length + (L.map fun p => p.2.length).sum + 1 ≤ Rows.uptoBulk x.1 := by
  rcases open_slice_pairs Tryz.underlying22 Tryz.underlying51 (by kernel_rfl) rfl rfl (by kernel_rfl) (by kernel_rfl) h with ⟨hcs, rfl⟩ | ⟨a, len, cap, m, n, V0, V1, D0, D1, P0, P1, hcs, hb, hl, hm, hmm, rfl, hel⟩
  · simp only [List.cons.injEq, and_true] at hcs
    subst hcs
    exact ⟨none, 0, [], rfl, fun h => absurd rfl h, fun p hp => (by cases hp), by simp [Rows.uptoBulk]⟩
  · simp only [List.cons.injEq, and_true] at hcs
    subst hcs
    simp only [if_true] at hmm
    subst hmm
    obtain ⟨B, hB⟩ := choose_lt (α := List UInt8 × List UInt8) (p := fun i b => V0 i = sv b.1 ∧ b.1.length ≤ maxLen ∧ (∃ ua uc, V1 i = .slice ua b.2.length uc ∧ (ua = none → uc = 0) ∧ RowAt w ua (b.2.map bv)) ∧ b.2.length + 1 ≤ Rows.uptoBulk (DataW.agg [D0 i, D1 i])) (fun i hi => by
      obtain ⟨_, _, h0, h1⟩ := hel i hi
      obtain ⟨s, e1, _, e3⟩ := DataW.trod_string Tryz.underlying9 h0
      obtain ⟨ua, uc, l, f1, f2, f3, f4⟩ := op_bytes h1
      simp only [List.cons.injEq, and_true] at e1
      refine ⟨(s.data.toList, l), by rw [e1]; show Value.string s = .string ⟨s.data.toList.toArray⟩; rw [Array.toArray_toList], by show s.data.toList.length ≤ maxLen; rw [Array.length_toList]; exact e3, ⟨ua, uc, f1, f2, f3⟩, ?_⟩
      simp only [Rows.uptoBulk, Rows.uptoBulkAll] at f4 ⊢
      omega)
    refine ⟨some a, m, (List.range len).map B, by simp, fun hne => ?_, fun p hp => ?_, ?_⟩
    · have hn : 0 < len := by
        rcases Nat.eq_zero_or_pos len with h0 | h0
        · subst h0; simp at hne
        · exact h0
      obtain ⟨b, off, spot⟩ := a
      have h0 := World.cell?_spot (hel 0 (by omega)).1
      have hspot : spot = none := by simpa [Addr.add] using h0
      subst hspot
      refine ⟨b, off, rfl, fun i d hd => ?_⟩
      rw [List.getElem?_map] at hd
      obtain ⟨j, hj, rfl⟩ := Option.map_eq_some_iff.1 hd
      obtain ⟨hjl, hij⟩ := List.getElem?_eq_some_iff.1 hj
      simp at hjl hij
      subst hij
      obtain ⟨c0, c1, _, _⟩ := hel i (by omega)
      obtain ⟨q1, _, ⟨ua, uc, q2, q3, q4⟩, _⟩ := hB i (by omega)
      rw [Go.WideShapes.add_plain, q1] at c0
      rw [Go.WideShapes.add_plain, q2] at c1
      exact ⟨c0, ua, uc, by rw [Nat.add_assoc]; exact c1, q3, q4⟩
    · obtain ⟨i, hi, rfl⟩ := List.mem_map.1 hp
      exact (hB i (by have := List.mem_range.1 hi; omega)).2.1
    · have hs := bulk_sum (n := len) (D := fun i => DataW.agg [D0 i, D1 i]) (f := fun i => (B i).2.length) (fun i hi => (hB i (by omega)).2.2.2)
      have he := bulks.slice_elems ((List.range len).map fun i => DataW.agg [D0 i, D1 i]) ((List.range (m - len)).map fun j => DataW.agg [D0 (len + j), D1 (len + j)])
      simp only [List.length_map, List.length_range, List.map_map]
      have e : ((fun p : List UInt8 × List UInt8 => p.2.length) ∘ B) = fun i => (B i).2.length := rfl
      rw [e]
      omega
end

section
variable {H : Type} {enc : TypeId × Value → H} {w : World} {base : Nat} {held : Bool}
end

end Go.Proofs.YtehmnmpkfbginaaGreat
/- FaultClear: the law's steps that are handed in, opened. -/
namespace Go.Proofs.YtehmnmpkfbginaaGreat
open Go.RowKit Go.Maps Go.ChangeShapes Go.WideShapes Go.Deep
set_option maxRecDepth 1000000

instance : Inhabited AOp := ⟨⟨0, 0, 0, [], [], 0, []⟩⟩
theorem k_int : Tryz.prog.cellsOf 3 = 1 := by kernel_rfl
theorem k_i64 : Tryz.prog.cellsOf 2 = 1 := by kernel_rfl
theorem k_str : Tryz.prog.cellsOf 9 = 1 := by kernel_rfl
theorem k_byt : Tryz.prog.cellsOf 42 = 1 := by kernel_rfl
theorem k_plan : Tryz.prog.cellsOf 25 = 2 := by kernel_rfl
theorem k_files : Tryz.prog.cellsOf 22 = 1 := by kernel_rfl
theorem k_ints : Tryz.prog.cellsOf 23 = 1 := by kernel_rfl
theorem k_start : Tryz.prog.cellsOf 27 = 4 := by kernel_rfl
theorem k_op : Tryz.prog.cellsOf 44 = 7 := by kernel_rfl
section
variable {H : Type} {enc : TypeId × Value → H} {w : World} {base : Nat} {held : Bool}
theorem op_aop {fuel : Nat} {cs : List Value} {x : DataW H × List MemPlace} (h : DataW.trod enc Tryz.prog w base (fun _ => true) held fuel 44 cs = some x) :
    ∃ (X : AOp) (da : Option Addr) (dc : Nat), cs = (encO X da dc).toList ∧
      (da = none → dc = 0) ∧ RowAt w da (X.data.map bv) ∧ (-9223372036854775808 ≤ X.at_ ∧ X.at_ < 9223372036854775808) ∧ X.name.length ≤ maxLen ∧ X.dst.length ≤ maxLen ∧ X.data.length + 1 ≤ Rows.uptoBulk x.1 := by
  obtain ⟨xs, k, _, hxy, hl, hxl, hf⟩ := DataW.trod_struct Tryz.underlying44 h
  rw [k_op] at hl
  match xs, hxl, cs, hl with
  | [y0, y1, y2, y3, y4, y5, y6], _, [v0, v1, v2, v3, v4, v5, v6], _ =>
    have g0 := hf 0 _ rfl
    have g1 := hf 1 _ rfl
    have g2 := hf 2 _ rfl
    have g3 := hf 3 _ rfl
    have g4 := hf 4 _ rfl
    have g5 := hf 5 _ rfl
    have g6 := hf 6 _ rfl
    simp only [List.getElem_toArray, List.getElem_cons_zero, List.getElem_cons_succ, k_int, k_i64, k_str, k_byt, List.drop, List.take, List.getElem?_cons_zero, List.getElem?_cons_succ] at g0 g1 g2 g3 g4 g5 g6
    obtain ⟨kind, e0, _, _⟩ := DataW.trod_int Tryz.underlying3 g0
    obtain ⟨on, e1, _, _⟩ := DataW.trod_int Tryz.underlying3 g1
    obtain ⟨n, e2, _, _⟩ := DataW.trod_int Tryz.underlying3 g2
    obtain ⟨s3, e3, _, l3⟩ := DataW.trod_string Tryz.underlying9 g3
    obtain ⟨s4, e4, _, l4⟩ := DataW.trod_string Tryz.underlying9 g4
    obtain ⟨at_, e5, _, w5⟩ := DataW.trod_int Tryz.underlying2 g5
    obtain ⟨da, dc, l, e6, hn, hr, hbk⟩ := op_bytes g6
    have e0 := (List.cons.inj e0).1
    have e1 := (List.cons.inj e1).1
    have e2 := (List.cons.inj e2).1
    have e3 := (List.cons.inj e3).1
    have e4 := (List.cons.inj e4).1
    have e5 := (List.cons.inj e5).1
    have h64 := i64_of_wf w5
    refine ⟨⟨kind, on, n, s3.data.toList, s4.data.toList, at_, l⟩, da, dc, ?_, hn, hr, by simp only; omega, by show s3.data.toList.length ≤ maxLen; rw [Array.length_toList]; exact l3, by show s4.data.toList.length ≤ maxLen; rw [Array.length_toList]; exact l4, ?_⟩
    · subst e0 e1 e2 e3 e4 e5 e6
      have t3 : (⟨s3.data.toList.toArray⟩ : ByteArray) = s3 := by rw [Array.toArray_toList]
      have t4 : (⟨s4.data.toList.toArray⟩ : ByteArray) = s4 := by rw [Array.toArray_toList]
      show [Value.int .i64 kind, .int .i64 on, .int .i64 n, .string s3, .string s4, .int .i64 at_, .slice da l.length dc] = [Value.int .i64 kind, .int .i64 on, .int .i64 n, .string ⟨s3.data.toList.toArray⟩, .string ⟨s4.data.toList.toArray⟩, .int .i64 at_, .slice da l.length dc]
      rw [t3, t4]
    · rw [hxy]
      simp only [List.map_cons, List.map_nil, Rows.uptoBulk, Rows.uptoBulkAll]
      omega
theorem op_aops {fuel : Nat} {v : Value} {x : DataW H × List MemPlace} (h : DataW.trod enc Tryz.prog w base (fun _ => true) held fuel 28 [v] = some x) (hbk : Rows.uptoBulk x.1 ≤ 1048576) :
    ∃ a c, ∃ xs : List AOp, v = .slice a xs.length c ∧ AOpsArg w a xs ∧ (∀ x ∈ xs, x.Ok) ∧ xs.length + 1 ≤ Rows.uptoBulk x.1 := by
  rcases open_slice Tryz.underlying28 h with ⟨hcs, rfl⟩ | ⟨a, len, cap, m, n, D, Pl, hcs, hb, hl, hm, hmm, rfl, hel⟩
  · simp only [List.cons.injEq, and_true] at hcs
    subst hcs
    exact ⟨none, 0, [], rfl, fun h => absurd rfl h, fun p hp => (by cases hp), by simp [Rows.uptoBulk]⟩
  · simp only [List.cons.injEq, and_true] at hcs
    subst hcs
    simp only [if_true] at hmm
    subst hmm
    rw [k_op] at hel
    obtain ⟨B, hB⟩ := choose_lt (α := AOp) (p := fun i X => (∃ (da : Option Addr) (dc : Nat), (∀ j u, (encO X da dc)[j]? = some u → w.cell? (a.add (i * 7 + j)) = some u) ∧ (da = none → dc = 0) ∧ RowAt w da (X.data.map bv)) ∧
        (-9223372036854775808 ≤ X.at_ ∧ X.at_ < 9223372036854775808) ∧ X.name.length ≤ maxLen ∧ X.dst.length ≤ maxLen ∧ X.data.length + 1 ≤ Rows.uptoBulk (D i)) (fun i hi => by
      obtain ⟨cs', h1, h2⟩ := hel i hi
      obtain ⟨_, hlen, hcell⟩ := World.cells?_some h1
      obtain ⟨X, da, dc, hcs, k1, k2, k3, k4, k5, k6⟩ := op_aop h2
      refine ⟨X, ⟨da, dc, fun j u hu => ?_, k1, k2⟩, k3, k4, k5, k6⟩
      rw [← Array.getElem?_toList, ← hcs] at hu
      have hj : j < 7 := by rw [← hlen]; exact (List.getElem?_eq_some_iff.1 hu).1
      have := hcell j hj
      rw [Go.Deep.add_add] at this
      rw [this, hu])
    have hs := bulk_sum (n := len) (D := D) (f := fun i => (B i).data.length) (fun i hi => (hB i (by omega)).2.2.2.2)
    have he := bulks.slice_elems ((List.range len).map D) ((List.range (m - len)).map fun j => D (len + j))
    refine ⟨some a, m, (List.range len).map B, by simp, fun hne => ?_, fun p hp => ?_, ?_⟩
    · have hn : 0 < len := by
        rcases Nat.eq_zero_or_pos len with h0 | h0
        · subst h0; simp at hne
        · exact h0
      obtain ⟨b, off, spot⟩ := a
      obtain ⟨⟨da, dc, hc0, _⟩, _⟩ := hB 0 (by omega)
      have h0 := World.cell?_spot (hc0 0 _ rfl)
      have hspot : spot = none := by simpa [Addr.add] using h0
      subst hspot
      refine ⟨b, off, rfl, fun i d hd => ?_⟩
      rw [List.getElem?_map] at hd
      obtain ⟨j, hj, rfl⟩ := Option.map_eq_some_iff.1 hd
      obtain ⟨hjl, hij⟩ := List.getElem?_eq_some_iff.1 hj
      simp at hjl hij
      subst hij
      obtain ⟨⟨da, dc, hc, k1, k2⟩, _⟩ := hB i (by omega)
      refine ⟨da, dc, fun j u hu => ?_, k1, k2⟩
      have := hc j u hu
      rw [Go.WideShapes.add_plain, ← Nat.add_assoc] at this
      exact this
    · obtain ⟨i, hi, rfl⟩ := List.mem_map.1 hp
      obtain ⟨_, k3, k4, k5, k6⟩ := hB i (by have := List.mem_range.1 hi; omega)
      have hmem : Rows.uptoBulk (D i) ≤ Rows.uptoBulkAll ((List.range len).map D) := bulks.part_le (List.mem_map.2 ⟨i, hi, rfl⟩)
      simp only at hbk
      exact ⟨k4, k5, k3, by omega⟩
    · simp only [List.length_map, List.length_range]
      omega
theorem op_plan {fuel : Nat} {cs : List Value} {x : DataW H × List MemPlace} (h : DataW.trod enc Tryz.prog w base (fun _ => true) held fuel 25 cs = some x) :
    ∃ (ua : Option Addr) (ul uc : Nat) (h64 : Int), cs = [.slice ua ul uc, .int .i64 h64] := by
  obtain ⟨xs, k, _, hxy, hl, hxl, hf⟩ := DataW.trod_struct Tryz.underlying25 h
  rw [k_plan] at hl
  match xs, hxl, cs, hl with
  | [y0, y1], _, [v0, v1], _ =>
    have g0 := hf 0 _ rfl
    have g1 := hf 1 _ rfl
    simp only [List.getElem_toArray, List.getElem_cons_zero, List.getElem_cons_succ, k_i64, k_ints, List.drop, List.take, List.getElem?_cons_zero, List.getElem?_cons_succ] at g0 g1
    obtain ⟨h64, e1, _, _⟩ := DataW.trod_int Tryz.underlying2 g1
    have e1 := (List.cons.inj e1).1
    rcases open_slice Tryz.underlying23 g0 with ⟨hcs, _⟩ | ⟨a, len, cap, m, n, D, Pl, hcs, _⟩
    · exact ⟨_, _, _, h64, by rw [(List.cons.inj hcs).1, e1]⟩
    · exact ⟨_, _, _, h64, by rw [(List.cons.inj hcs).1, e1]⟩
theorem op_start {fuel : Nat} {cs : List Value} {x : DataW H × List MemPlace} (h : DataW.trod enc Tryz.prog w base (fun _ => true) held fuel 27 cs = some x) :
    ∃ (a0 : Int) (fa ua : Option Addr) (fc ul uc : Nat) (h64 : Int), ∃ L : List (List UInt8 × List UInt8), cs = [.int .i64 a0, .slice fa L.length fc, .slice ua ul uc, .int .i64 h64] ∧ FilesArg w fa L ∧ (∀ p ∈ L, p.1.length ≤ maxLen) ∧ L.length + (L.map fun p => p.2.length).sum + 1 ≤ Rows.uptoBulk x.1 := by
  obtain ⟨xs, k, _, hxy, hl, hxl, hf⟩ := DataW.trod_struct Tryz.underlying27 h
  rw [k_start] at hl
  match xs, hxl, cs, hl with
  | [y0, y1, y2], _, [v0, v1, v2, v3], _ =>
    have g0 := hf 0 _ rfl
    have g1 := hf 1 _ rfl
    have g2 := hf 2 _ rfl
    simp only [List.getElem_toArray, List.getElem_cons_zero, List.getElem_cons_succ, k_i64, k_plan, k_files, List.drop, List.take, List.getElem?_cons_zero, List.getElem?_cons_succ] at g0 g1 g2
    obtain ⟨a0, e0, _, _⟩ := DataW.trod_int Tryz.underlying2 g0
    obtain ⟨fa, fc, L, e1, hAf, hLn, hLb⟩ := op_files g1
    obtain ⟨ua, ul, uc, h64, e2⟩ := op_plan g2
    have e0 := (List.cons.inj e0).1
    obtain ⟨e2, e3⟩ := List.cons.inj e2
    have e3 := (List.cons.inj e3).1
    refine ⟨a0, fa, ua, fc, ul, uc, h64, L, by rw [e0, e1, e2, e3], hAf, hLn, ?_⟩
    rw [hxy]
    simp only [List.map_cons, List.map_nil, Rows.uptoBulk, Rows.uptoBulkAll]
    omega
end

end Go.Proofs.YtehmnmpkfbginaaGreat
