/- Texts of this claim, one behind the other: Opn, Ope. -/
import Derived.Test.YtgfdbcpakcnkpaaSd26
import Derived.Test.YtgfdbcpakcnkpaaBulk
import Derived.Deep.SlicePairs
import Derived.Deep.Grids
import Derived.Test.YtgfdbcpakcnkpaaSw35
set_option linter.unusedSimpArgs false
set_option linter.unusedVariables false
/- What is handed in, opened: bytes, files. -/
namespace Go.Proofs.Ytgfdbcpakcnkpaa
open Go.RowKit Go.Maps Go.ChangeShapes Go.WideShapes Go.Deep
set_option maxRecDepth 1000000

theorem row_of_cells {w : World} {a : Addr} {n : Nat} {V : Nat → Value} (h : ∀ i, i < n → w.cell? (a.add i) = some (V i)) : RowAt w (some a) ((List.range n).map V) := fun hne => by
  have hn : 0 < n := by
    rcases Nat.eq_zero_or_pos n with h0 | h0
    · subst h0; simp at hne
    · exact h0
  obtain ⟨b, off, spot⟩ := a
  have h0 := World.cell?_spot (h 0 hn)
  have hspot : spot = none := by simpa [Addr.add] using h0
  subst hspot
  refine ⟨b, off, rfl, fun j u hu => ?_⟩
  rw [List.getElem?_map] at hu
  obtain ⟨i, hi, rfl⟩ := Option.map_eq_some_iff.1 hu
  obtain ⟨hj, hij⟩ := List.getElem?_eq_some_iff.1 hi
  simp at hj hij
  subst hij
  rw [← Go.WideShapes.add_plain]
  exact h j hj

section
variable {H : Type} {enc : TypeId × Value → H} {w : World} {base : Nat} {held : Bool}

theorem op_bytes {fuel : Nat} {v : Value} {x : DataW H × List MemPlace} (h : DataW.trod enc Try.prog w base (fun _ => true) held fuel 26 [v] = some x) :
    ∃ a c, ∃ l : List UInt8, v = .slice a l.length c ∧ (a = none → c = 0) ∧ RowAt w a (l.map bv) ∧ l.length + 1 ≤ Rows.uptoBulk x.1 := by
  rcases open_slice1 Try.underlying26 (by kernel_rfl) h with ⟨hcs, rfl⟩ | ⟨a, len, cap, m, n, V, D, Pl, hcs, hb, hl, hm, hmm, rfl, hel⟩
  · simp only [List.cons.injEq, and_true] at hcs
    subst hcs
    exact ⟨none, 0, [], rfl, fun _ => rfl, RowAt.nil _ _, by simp [Rows.uptoBulk]⟩
  · simp only [List.cons.injEq, and_true] at hcs
    subst hcs
    simp only [if_true] at hmm
    subst hmm
    obtain ⟨B, hB⟩ := choose_lt (α := UInt8) (p := fun i b => V i = bv b) (fun i hi => by
      obtain ⟨c, h1, _, h3⟩ := DataW.trod_int Try.underlying5 (hel i hi).2
      have h4 := u8_of_wf h3
      simp only [List.cons.injEq, and_true] at h1
      refine ⟨UInt8.ofNat c.toNat, ?_⟩
      rw [h1]
      unfold bv
      congr 1
      rw [UInt8.toNat_ofNat']
      omega)
    refine ⟨some a, m, (List.range len).map B, by simp, fun h => (by cases h), ?_, ?_⟩
    · have hr := row_of_cells (w := w) (a := a) (n := len) (V := fun i => bv (B i)) (fun i hi => by rw [(hel i (by omega)).1, hB i (by omega)])
      rw [List.map_map]
      exact hr
    · have := bulks.slice_le ((List.range len).map D) ((List.range (m - len)).map fun j => D (len + j))
      simp at this
      simp
      omega

theorem bulk_sum {n : Nat} {D : Nat → DataW H} {f : Nat → Nat} (h : ∀ i, i < n → f i + 1 ≤ Rows.uptoBulk (D i)) : n + ((List.range n).map f).sum ≤ Rows.uptoBulkAll ((List.range n).map D) := by
  induction n with
  | zero => simp [Rows.uptoBulkAll]
  | succ n ih =>
    have h1 := ih (fun i hi => h i (by omega))
    have h2 := h n (by omega)
    rw [List.range_succ, List.map_append, List.map_append, List.sum_append, bulks.append]
    simp [Rows.uptoBulkAll]
    omega
instance : Inhabited (List UInt8 × List UInt8) := ⟨([], [])⟩
theorem op_files {fuel : Nat} {v : Value} {x : DataW H × List MemPlace} (h : DataW.trod enc Try.prog w base (fun _ => true) held fuel 22 [v] = some x) :
    ∃ a c, ∃ L : List (List UInt8 × List UInt8), v = .slice a L.length c ∧ FilesArg w a L ∧ (∀ p ∈ L, p.1.length ≤ maxLen) ∧ L.length + (L.map fun p => p.2.length).sum + 1 ≤ Rows.uptoBulk x.1 := by
  rcases open_slice_pairs Try.underlying22 Try.underlying78 (by kernel_rfl) rfl rfl (by kernel_rfl) (by kernel_rfl) h with ⟨hcs, rfl⟩ | ⟨a, len, cap, m, n, V0, V1, D0, D1, P0, P1, hcs, hb, hl, hm, hmm, rfl, hel⟩
  · simp only [List.cons.injEq, and_true] at hcs
    subst hcs
    exact ⟨none, 0, [], rfl, fun h => absurd rfl h, fun p hp => (by cases hp), by simp [Rows.uptoBulk]⟩
  · simp only [List.cons.injEq, and_true] at hcs
    subst hcs
    simp only [if_true] at hmm
    subst hmm
    obtain ⟨B, hB⟩ := choose_lt (α := List UInt8 × List UInt8) (p := fun i b => V0 i = sv b.1 ∧ b.1.length ≤ maxLen ∧ (∃ ua uc, V1 i = .slice ua b.2.length uc ∧ (ua = none → uc = 0) ∧ RowAt w ua (b.2.map bv)) ∧ b.2.length + 1 ≤ Rows.uptoBulk (DataW.agg [D0 i, D1 i])) (fun i hi => by
      obtain ⟨_, _, h0, h1⟩ := hel i hi
      obtain ⟨s, e1, _, e3⟩ := DataW.trod_string Try.underlying9 h0
      obtain ⟨ua, uc, l, f1, f2, f3, f4⟩ := op_bytes h1
      simp only [List.cons.injEq, and_true] at e1
      refine ⟨(s.data.toList, l), by rw [e1]; show Value.string s = .string ⟨s.data.toList.toArray⟩; rw [Array.toArray_toList], by show s.data.toList.length ≤ maxLen; rw [Array.length_toList]; exact e3, ⟨ua, uc, f1, f2, f3⟩, ?_⟩
      simp only [Rows.uptoBulk, Rows.uptoBulkAll] at f4 ⊢
      omega)
    refine ⟨some a, m, (List.range len).map B, by simp, fun hne => ?_, fun p hp => ?_, ?_⟩
    · have hn : 0 < len := by
        rcases Nat.eq_zero_or_pos len with h0 | h0
        · subst h0; simp at hne
        · exact h0
      obtain ⟨b, off, spot⟩ := a
      have h0 := World.cell?_spot (hel 0 (by omega)).1
      have hspot : spot = none := by simpa [Addr.add] using h0
      subst hspot
      refine ⟨b, off, rfl, fun i d hd => ?_⟩
      rw [List.getElem?_map] at hd
      obtain ⟨j, hj, rfl⟩ := Option.map_eq_some_iff.1 hd
      obtain ⟨hjl, hij⟩ := List.getElem?_eq_some_iff.1 hj
      simp at hjl hij
      subst hij
      obtain ⟨c0, c1, _, _⟩ := hel i (by omega)
      obtain ⟨q1, _, ⟨ua, uc, q2, q3, q4⟩, _⟩ := hB i (by omega)
      rw [Go.WideShapes.add_plain, q1] at c0
      rw [Go.WideShapes.add_plain, q2] at c1
      exact ⟨c0, ua, uc, by rw [Nat.add_assoc]; exact c1, q3, q4⟩
    · obtain ⟨i, hi, rfl⟩ := List.mem_map.1 hp
      exact (hB i (by have := List.mem_range.1 hi; omega)).2.1
    · have hs := bulk_sum (n := len) (D := fun i => DataW.agg [D0 i, D1 i]) (f := fun i => (B i).2.length) (fun i hi => (hB i (by omega)).2.2.2)
      have he := bulks.slice_elems ((List.range len).map fun i => DataW.agg [D0 i, D1 i]) ((List.range (m - len)).map fun j => DataW.agg [D0 (len + j), D1 (len + j)])
      simp only [List.length_map, List.length_range, List.map_map]
      have e : ((fun p : List UInt8 × List UInt8 => p.2.length) ∘ B) = fun i => (B i).2.length := rfl
      rw [e]
      omega
end

section
variable {H : Type} {enc : TypeId × Value → H} {w : World} {base : Nat} {held : Bool}
end

end Go.Proofs.Ytgfdbcpakcnkpaa
/- What is handed in, opened: entries, a segment. -/
namespace Go.Proofs.Ytgfdbcpakcnkpaa
open Go.RowKit Go.Maps Go.ChangeShapes Go.WideShapes Go.Deep
set_option maxRecDepth 1000000

section
variable {H : Type} {enc : TypeId × Value → H} {w : World} {base : Nat}
theorem k_i64s : Try.prog.cellsOf 2 = 1 := by kernel_rfl
theorem k_entss : Try.prog.cellsOf 52 = 1 := by kernel_rfl
theorem k_errs : Try.prog.cellsOf 32 = 1 := by kernel_rfl
theorem k_segs : Try.prog.cellsOf 54 = 5 := by kernel_rfl
/-- bytes, with their room and their bulk -/
theorem op_bytesB {fuel : Nat} {v : Value} {x : DataW H × List MemPlace} (h : DataW.trod enc Try.prog w base (fun _ => true) true fuel 26 [v] = some x) :
    ∃ a c, ∃ l : List UInt8, v = .slice a l.length c ∧ l.length ≤ c ∧ (a = none → c = 0) ∧ RowAt w a (l.map bv) ∧ l.length + 1 ≤ Rows.uptoBulk x.1 := by
  obtain ⟨a, c, l, rfl, h1, h2, h3⟩ := op_bytesC h
  obtain ⟨a', c', l', e, _, _, h4⟩ := op_bytes h
  simp only [Value.slice.injEq] at e
  exact ⟨a, c, l, rfl, h1, h2, h3, by rw [e.2.1]; exact h4⟩
/-- entries -/
theorem op_ents {fuel : Nat} {v : Value} {x : DataW H × List MemPlace} (h : DataW.trod enc Try.prog w base (fun _ => true) true fuel 52 [v] = some x) :
    ∃ a c, ∃ L : List (List UInt8), v = .slice a L.length c ∧ EntsAt w a L ∧ L.length ≤ c ∧ L.length ≤ maxLen ∧ L.length + 1 ≤ Rows.uptoBulk x.1 ∧ ∀ e ∈ L, e.length + 1 ≤ Rows.uptoBulk x.1 := by
  rcases open_slice1 Try.underlying52 (by kernel_rfl) h with ⟨hcs, rfl⟩ | ⟨a, len, cap, m, n, V, D, Pl, hcs, hb, hl, hm, hmm, rfl, hel⟩
  · simp only [List.cons.injEq, and_true] at hcs
    subst hcs
    exact ⟨none, 0, [], rfl, EntsAt.nil _ _, Nat.le_refl _, Nat.zero_le _, by simp [Rows.uptoBulk], fun e he => by cases he⟩
  · simp only [List.cons.injEq, and_true] at hcs
    subst hcs
    simp only [if_true] at hmm
    subst hmm
    obtain ⟨B, hB⟩ := choose_lt (α := List UInt8) (p := fun i b => ∃ ua uc, V i = .slice ua b.length uc ∧ b.length ≤ uc ∧ (ua = none → uc = 0) ∧ RowAt w ua (b.map bv) ∧ b.length + 1 ≤ Rows.uptoBulk (D i)) (fun i hi => by
      obtain ⟨ua, uc, l, h1, h2, h3, h4, h5⟩ := op_bytesB (hel i hi).2
      exact ⟨l, ua, uc, h1, h2, h3, h4, h5⟩)
    have hall : Rows.uptoBulkAll ((List.range len).map D) + 1 ≤ Rows.uptoBulk (DataW.slice ((List.range len).map D) ((List.range (m - len)).map fun j => D (len + j))) := by
      simp only [Rows.uptoBulk]; omega
    have hpart : ∀ i, i < len → Rows.uptoBulk (D i) ≤ Rows.uptoBulkAll ((List.range len).map D) := fun i hi => bulks.part_le (List.mem_map.2 ⟨i, List.mem_range.2 hi, rfl⟩)
    refine ⟨some a, m, (List.range len).map B, by simp, fun _ => ?_, by simp; omega, by simp; omega, ?_, fun e he => ?_⟩
    · obtain ⟨b, off, spot⟩ := a
      by_cases h0 : 0 < len
      · have h1 := World.cell?_spot (hel 0 (by omega)).1
        have hspot : spot = none := by simpa [Addr.add] using h1
        subst hspot
        refine ⟨b, off, rfl, fun i d hd => ?_⟩
        rw [List.getElem?_map] at hd
        obtain ⟨j, hj, rfl⟩ := Option.map_eq_some_iff.1 hd
        obtain ⟨hj1, hj2⟩ := List.getElem?_eq_some_iff.1 hj
        simp at hj1 hj2
        subst hj2
        obtain ⟨ua, uc, h1, h2, h3, h4, _⟩ := hB i (by omega)
        refine ⟨ua, uc, ?_, h4, h2, h3⟩
        have := (hel i (by omega)).1
        rw [Go.WideShapes.add_plain] at this
        rw [this, h1]
      · rename_i hne
        have : len = 0 := by omega
        subst this
        exact absurd rfl hne
    · have := bulks.slice_le ((List.range len).map D) ((List.range (m - len)).map fun j => D (len + j))
      simp at this
      simp
      omega
    · obtain ⟨i, hi, rfl⟩ := List.mem_map.1 he
      have hi' := List.mem_range.1 hi
      obtain ⟨ua, uc, _, _, _, _, h5⟩ := hB i (by omega)
      have := hpart i hi'
      show (B i).length + 1 ≤ Rows.uptoBulk (DataW.slice _ _)
      omega
/-- a segment -/
theorem op_seg {fuel : Nat} {cs : List Value} {x : DataW H × List MemPlace} (h : DataW.trod enc Try.prog w base (fun _ => true) true fuel 54 cs = some x) :
    ∃ (f g z y : Int) (a : Option Addr) (c : Nat), ∃ L : List (List UInt8), cs = [.int .i64 f, .slice a L.length c, .int .i64 g, .int .i64 z, .int .i64 y] ∧ EntsAt w a L ∧ L.length ≤ c ∧ L.length ≤ maxLen ∧ (∀ e ∈ L, e.length + 1 ≤ Rows.uptoBulk x.1) ∧ f ≤ 9223372036854775807 := by
  obtain ⟨xs, k, _, hxy, hl, hxl, hf⟩ := DataW.trod_struct Try.underlying54 h
  rw [k_segs] at hl
  match xs, hxl, cs, hl with
  | [y0, y1, y2, y3, y4], _, [v0, v1, v2, v3, v4], _ =>
    have g0 := hf 0 _ rfl
    have g1 := hf 1 _ rfl
    have g2 := hf 2 _ rfl
    have g3 := hf 3 _ rfl
    have g4 := hf 4 _ rfl
    simp only [List.getElem_toArray, List.getElem_cons_zero, List.getElem_cons_succ, k_i64s, k_entss, k_errs, List.drop, List.take, List.getElem?_cons_zero, List.getElem?_cons_succ] at g0 g1 g2 g3 g4
    obtain ⟨f, e0, _, wf⟩ := DataW.trod_int Try.underlying2 g0
    obtain ⟨a, c, L, e1, hA, hc, hm, _, hb⟩ := op_ents g1
    obtain ⟨gg, e2, _, _⟩ := DataW.trod_int Try.underlying2 g2
    obtain ⟨zz, e3, _, _⟩ := DataW.trod_int Try.underlying2 g3
    obtain ⟨yy, e4, _, _⟩ := DataW.trod_int Try.underlying32 g4
    have e0 := (List.cons.inj e0).1
    have e2 := (List.cons.inj e2).1
    have e3 := (List.cons.inj e3).1
    have e4 := (List.cons.inj e4).1
    refine ⟨f, gg, zz, yy, a, c, L, by rw [e0, e1, e2, e3, e4], hA, hc, hm, fun e he => ?_, ?_⟩
    · have := hb e he
      rw [hxy]
      simp only [List.map_cons, List.map_nil, Rows.uptoBulk, Rows.uptoBulkAll]
      omega
    · have := (i64_of_wf wf).2
      omega
end

end Go.Proofs.Ytgfdbcpakcnkpaa
