/- Texts of this claim, one behind the other: Opn, Ope, Opt, Shr, Sht. -/
import Derived.Test.YtlmdpcaikhdenaaGreatSl23
import Derived.Test.YtlmdpcaikhdenaaGreatBulk
import Derived.Deep.SlicePairs
import Derived.Deep.Grids
import Derived.Test.YtlmdpcaikhdenaaGreatSl29
import Derived.Test.YtlmdpcaikhdenaaGreatSl01
set_option linter.unusedSimpArgs false
set_option linter.unusedVariables false
/- What is handed in, opened: bytes, files. -/
namespace Go.Proofs.YtlmdpcaikhdenaaGreat
open Go.RowKit Go.Maps Go.ChangeShapes Go.WideShapes Go.Deep
set_option maxRecDepth 1000000

theorem row_of_cells {w : World} {a : Addr} {n : Nat} {V : Nat → Value} (h : ∀ i, i < n → w.cell? (a.add i) = some (V i)) : RowAt w (some a) ((List.range n).map V) := fun hne => by
  have hn : 0 < n := by
    rcases Nat.eq_zero_or_pos n with h0 | h0
    · subst h0; simp at hne
    · exact h0
  obtain ⟨b, off, spot⟩ := a
  have h0 := World.cell?_spot (h 0 hn)
  have hspot : spot = none := by simpa [Addr.add] using h0
  subst hspot
  refine ⟨b, off, rfl, fun j u hu => ?_⟩
  rw [List.getElem?_map] at hu
  obtain ⟨i, hi, rfl⟩ := Option.map_eq_some_iff.1 hu
  obtain ⟨hj, hij⟩ := List.getElem?_eq_some_iff.1 hi
  simp at hj hij
  subst hij
  rw [← Go.WideShapes.add_plain]
  exact h j hj

section
variable {H : Type} {enc : TypeId × Value → H} {w : World} {base : Nat} {held : Bool}

theorem op_bytes {fuel : Nat} {v : Value} {x : DataW H × List MemPlace} (h : DataW.trod enc Tryz.prog w base (fun _ => true) held fuel 26 [v] = some x) :
    ∃ a c, ∃ l : List UInt8, v = .slice a l.length c ∧ (a = none → c = 0) ∧ RowAt w a (l.map bv) ∧ l.length + 1 ≤ Rows.uptoBulk x.1 := by
  rcases open_slice1 Tryz.underlying26 (by kernel_rfl) h with ⟨hcs, rfl⟩ | ⟨a, len, cap, m, n, V, D, Pl, hcs, hb, hl, hm, hmm, rfl, hel⟩
  · simp only [List.cons.injEq, and_true] at hcs
    subst hcs
    exact ⟨none, 0, [], rfl, fun _ => rfl, RowAt.nil _ _, by simp [Rows.uptoBulk]⟩
  · simp only [List.cons.injEq, and_true] at hcs
    subst hcs
    simp only [if_true] at hmm
    subst hmm
    obtain ⟨B, hB⟩ := choose_lt (α := UInt8) (p := fun i b => V i = bv b) (fun i hi => by
      obtain ⟨c, h1, _, h3⟩ := DataW.trod_int Tryz.underlying5 (hel i hi).2
      have h4 := u8_of_wf h3
      simp only [List.cons.injEq, and_true] at h1
      refine ⟨UInt8.ofNat c.toNat, ?_⟩
      rw [h1]
      unfold bv
      congr 1
      rw [UInt8.toNat_ofNat']
      omega)
    refine ⟨some a, m, (List.range len).map B, by simp, fun h => (by cases h), ?_, ?_⟩
    · have hr := row_of_cells (w := w) (a := a) (n := len) (V := fun i => bv (B i)) (fun i hi => by rw [(hel i (by omega)).1, hB i (by omega)])
      rw [List.map_map]
      exact hr
    · have := bulks.slice_le ((List.range len).map D) ((List.range (m - len)).map fun j => D (len + j))
      simp at this
      simp
      omega

instance : Inhabited (List UInt8 × List UInt8) := ⟨([], [])⟩
end

section
variable {H : Type} {enc : TypeId × Value → H} {w : World} {base : Nat} {held : Bool}
end

end Go.Proofs.YtlmdpcaikhdenaaGreat
/- What is handed in, opened: entries, a segment. -/
namespace Go.Proofs.YtlmdpcaikhdenaaGreat
open Go.RowKit Go.Maps Go.ChangeShapes Go.WideShapes Go.Deep
set_option maxRecDepth 1000000

section
variable {H : Type} {enc : TypeId × Value → H} {w : World} {base : Nat}
theorem k_i64s : Tryz.prog.cellsOf 2 = 1 := by kernel_rfl
theorem k_entss : Tryz.prog.cellsOf 22 = 1 := by kernel_rfl
/-- bytes, with their room and their bulk -/
theorem op_bytesB {fuel : Nat} {v : Value} {x : DataW H × List MemPlace} (h : DataW.trod enc Tryz.prog w base (fun _ => true) true fuel 26 [v] = some x) :
    ∃ a c, ∃ l : List UInt8, v = .slice a l.length c ∧ l.length ≤ c ∧ (a = none → c = 0) ∧ RowAt w a (l.map bv) ∧ l.length + 1 ≤ Rows.uptoBulk x.1 := by
  obtain ⟨a, c, l, rfl, h1, h2, h3⟩ := op_bytesC h
  obtain ⟨a', c', l', e, _, _, h4⟩ := op_bytes h
  simp only [Value.slice.injEq] at e
  exact ⟨a, c, l, rfl, h1, h2, h3, by rw [e.2.1]; exact h4⟩
/-- entries -/
theorem op_ents {fuel : Nat} {v : Value} {x : DataW H × List MemPlace} (h : DataW.trod enc Tryz.prog w base (fun _ => true) true fuel 22 [v] = some x) :
    ∃ a c, ∃ L : List (List UInt8), v = .slice a L.length c ∧ EntsAt w a L ∧ L.length ≤ c ∧ L.length ≤ maxLen ∧ L.length + 1 ≤ Rows.uptoBulk x.1 ∧ ∀ e ∈ L, e.length + 1 ≤ Rows.uptoBulk x.1 := by
  rcases open_slice1 Tryz.underlying22 (by kernel_rfl) h with ⟨hcs, rfl⟩ | ⟨a, len, cap, m, n, V, D, Pl, hcs, hb, hl, hm, hmm, rfl, hel⟩
  · simp only [List.cons.injEq, and_true] at hcs
    subst hcs
    exact ⟨none, 0, [], rfl, EntsAt.nil _ _, Nat.le_refl _, Nat.zero_le _, by simp [Rows.uptoBulk], fun e he => by cases he⟩
  · simp only [List.cons.injEq, and_true] at hcs
    subst hcs
    simp only [if_true] at hmm
    subst hmm
    obtain ⟨B, hB⟩ := choose_lt (α := List UInt8) (p := fun i b => ∃ ua uc, V i = .slice ua b.length uc ∧ b.length ≤ uc ∧ (ua = none → uc = 0) ∧ RowAt w ua (b.map bv) ∧ b.length + 1 ≤ Rows.uptoBulk (D i)) (fun i hi => by
      obtain ⟨ua, uc, l, h1, h2, h3, h4, h5⟩ := op_bytesB (hel i hi).2
      exact ⟨l, ua, uc, h1, h2, h3, h4, h5⟩)
    have hall : Rows.uptoBulkAll ((List.range len).map D) + 1 ≤ Rows.uptoBulk (DataW.slice ((List.range len).map D) ((List.range (m - len)).map fun j => D (len + j))) := by
      simp only [Rows.uptoBulk]; omega
    have hpart : ∀ i, i < len → Rows.uptoBulk (D i) ≤ Rows.uptoBulkAll ((List.range len).map D) := fun i hi => bulks.part_le (List.mem_map.2 ⟨i, List.mem_range.2 hi, rfl⟩)
    refine ⟨some a, m, (List.range len).map B, by simp, fun _ => ?_, by simp; omega, by simp; omega, ?_, fun e he => ?_⟩
    · obtain ⟨b, off, spot⟩ := a
      by_cases h0 : 0 < len
      · have h1 := World.cell?_spot (hel 0 (by omega)).1
        have hspot : spot = none := by simpa [Addr.add] using h1
        subst hspot
        refine ⟨b, off, rfl, fun i d hd => ?_⟩
        rw [List.getElem?_map] at hd
        obtain ⟨j, hj, rfl⟩ := Option.map_eq_some_iff.1 hd
        obtain ⟨hj1, hj2⟩ := List.getElem?_eq_some_iff.1 hj
        simp at hj1 hj2
        subst hj2
        obtain ⟨ua, uc, h1, h2, h3, h4, _⟩ := hB i (by omega)
        refine ⟨ua, uc, ?_, h4, h2, h3⟩
        have := (hel i (by omega)).1
        rw [Go.WideShapes.add_plain] at this
        rw [this, h1]
      · rename_i hne
        have : len = 0 := by omega
        subst this
        exact absurd rfl hne
    · have := bulks.slice_le ((List.range len).map D) ((List.range (m - len)).map fun j => D (len + j))
      simp at this
      simp
      omega
    · obtain ⟨i, hi, rfl⟩ := List.mem_map.1 he
      have hi' := List.mem_range.1 hi
      obtain ⟨ua, uc, _, _, _, _, h5⟩ := hB i (by omega)
      have := hpart i hi'
      show (B i).length + 1 ≤ Rows.uptoBulk (DataW.slice _ _)
      omega
end

end Go.Proofs.YtlmdpcaikhdenaaGreat
/- What is handed in, opened: SegmentLasts's. -/
namespace Go.Proofs.YtlmdpcaikhdenaaGreat
open Go.RowKit Go.Maps Go.ChangeShapes Go.WideShapes Go.Deep
set_option maxRecDepth 1000000

section
variable {H : Type} {enc : TypeId × Value → H} {w : World} {base : Nat}
theorem kt_int : Tryz.prog.cellsOf 3 = 1 := by kernel_rfl
theorem kt_bol : Tryz.prog.cellsOf 36 = 1 := by kernel_rfl
theorem kt_stp : Tryz.prog.cellsOf 38 = 3 := by kernel_rfl
theorem kt_torn : Tryz.prog.cellsOf 40 = 6 := by kernel_rfl
theorem op_boolsT {fuel : Nat} {v : Value} {x : DataW H × List MemPlace} (h : DataW.trod enc Tryz.prog w base (fun _ => true) true fuel 36 [v] = some x) :
    ∃ a c, ∃ l : List Bool, v = .slice a l.length c ∧ RowAt w a (l.map Value.bool) := by
  rcases open_bools Tryz.underlying36 Tryz.underlying4 (by kernel_rfl) h with ⟨hcs, rfl⟩ | ⟨a, len, cap, B, hcs, hb, hl, hm, rfl, hel⟩
  · simp only [List.cons.injEq, and_true] at hcs
    subst hcs
    exact ⟨none, 0, [], rfl, RowAt.nil _ _⟩
  · simp only [List.cons.injEq, and_true] at hcs
    subst hcs
    refine ⟨some a, cap, (List.range len).map B, by simp, ?_⟩
    have hr := row_of_cells (w := w) (a := a) (n := len) (V := fun i => .bool (B i)) (fun i hi => hel i (by omega))
    rw [List.map_map]
    exact hr
theorem op_stopT {fuel : Nat} {cs : List Value} {x : DataW H × List MemPlace} (h : DataW.trod enc Tryz.prog w base (fun _ => true) true fuel 38 cs = some x) :
    ∃ (names torn : Int) (ka : Option Addr) (kc : Nat) (keep : List Bool), cs = [.int .i64 names, .slice ka keep.length kc, .int .i64 torn] ∧ RowAt w ka (keep.map Value.bool) ∧ torn < 9223372036854775808 := by
  obtain ⟨zs, k2, _, _, hl2, hzl, hz⟩ := DataW.trod_struct Tryz.underlying38 h
  rw [kt_stp] at hl2
  match zs, hzl, cs, hl2 with
  | [z0, z1, z2], _, [v0, v1, v2], _ =>
    have q0 := hz 0 _ rfl
    have q1 := hz 1 _ rfl
    have q2 := hz 2 _ rfl
    simp only [List.getElem_toArray, List.getElem_cons_zero, List.getElem_cons_succ, kt_int, kt_bol, List.drop, List.take, List.getElem?_cons_zero, List.getElem?_cons_succ] at q0 q1 q2
    obtain ⟨sn, e7, _, _⟩ := DataW.trod_int Tryz.underlying3 q0
    obtain ⟨ka, kc, kl, e8, hkr⟩ := op_boolsT q1
    obtain ⟨st, e9, _, w9⟩ := DataW.trod_int Tryz.underlying3 q2
    have e7 := (List.cons.inj e7).1
    have e9 := (List.cons.inj e9).1
    have hst := i64_of_wf w9
    subst e7 e8 e9
    exact ⟨sn, st, ka, kc, kl, rfl, hkr, by omega⟩
theorem ents_nil {fuel : Nat} {a : Option Addr} {n c : Nat} {x : DataW H × List MemPlace} (h : DataW.trod enc Tryz.prog w base (fun _ => true) true fuel 22 [.slice a n c] = some x) : a = none → c = 0 := by
  rcases open_slice1 Tryz.underlying22 (by kernel_rfl) h with ⟨hcs, _⟩ | ⟨a', len, cap, m, k, V, D, Pl, hcs, _⟩
  · simp only [List.cons.injEq, and_true, Value.slice.injEq] at hcs
    exact fun _ => hcs.2.2
  · simp only [List.cons.injEq, and_true, Value.slice.injEq] at hcs
    intro e
    rw [hcs.1] at e
    cases e
theorem op_torn {fuel : Nat} {cs : List Value} {x : DataW H × List MemPlace} (h : DataW.trod enc Tryz.prog w base (fun _ => true) true fuel 40 cs = some x) :
    ∃ (f names torn : Int) (ha ma ka : Option Addr) (hc mc kc : Nat) (L M : List (List UInt8)) (keep : List Bool), cs = [.int .i64 f, .slice ha L.length hc, .slice ma M.length mc, .int .i64 names, .slice ka keep.length kc, .int .i64 torn] ∧ EntsAt w ha L ∧ EntsAt w ma M ∧ L.length ≤ maxLen ∧ M.length ≤ maxLen ∧ (∀ e ∈ L, e.length + 1 ≤ Rows.uptoBulk x.1) ∧ (∀ e ∈ M, e.length + 1 ≤ Rows.uptoBulk x.1) ∧ (ha = none → hc = 0) ∧ (ma = none → mc = 0) ∧ RowAt w ka (keep.map Value.bool) ∧ torn < 9223372036854775808 := by
  obtain ⟨xs, k, _, hxy, hl, hxl, hf⟩ := DataW.trod_struct Tryz.underlying40 h
  rw [kt_torn] at hl
  match xs, hxl, cs, hl with
  | [y0, y1, y2, y3], _, [v0, v1, v2, v3, v4, v5], _ =>
    have g0 := hf 0 _ rfl
    have g1 := hf 1 _ rfl
    have g2 := hf 2 _ rfl
    have g3 := hf 3 _ rfl
    simp only [List.getElem_toArray, List.getElem_cons_zero, List.getElem_cons_succ, k_i64s, k_entss, kt_stp, List.drop, List.take, List.getElem?_cons_zero, List.getElem?_cons_succ] at g0 g1 g2 g3
    obtain ⟨f, e0, _, wf⟩ := DataW.trod_int Tryz.underlying2 g0
    obtain ⟨ha, hc, L, e1, hA, _, hm, _, hb⟩ := op_ents g1
    obtain ⟨ma, mc, M, e2, hA2, _, hm2, _, hb2⟩ := op_ents g2
    obtain ⟨names, torn, ka, kc, keep, e3, hk, ht⟩ := op_stopT g3
    have e0 := (List.cons.inj e0).1
    obtain ⟨e3, e4⟩ := List.cons.inj e3
    obtain ⟨e4, e5⟩ := List.cons.inj e4
    have e5 := (List.cons.inj e5).1
    subst e1 e2
    refine ⟨f, names, torn, ha, ma, ka, hc, mc, kc, L, M, keep, by rw [e0, e3, e4, e5], hA, hA2, hm, hm2, fun e he => ?_, fun e he => ?_, ents_nil g1, ents_nil g2, hk, ht⟩
    · have := hb e he
      rw [hxy]
      simp only [List.map_cons, List.map_nil, Rows.uptoBulk, Rows.uptoBulkAll]
      omega
    · have := hb2 e he
      rw [hxy]
      simp only [List.map_cons, List.map_nil, Rows.uptoBulk, Rows.uptoBulkAll]
      omega
end

end Go.Proofs.YtlmdpcaikhdenaaGreat
/- Segments, plain: what Decode tells of frames: of whole ones, with something behind, of a beginning of them. No program in sight. -/
namespace Go.Proofs.YtlmdpcaikhdenaaGreat

theorem frame_split (k : UInt8) (body rest : List UInt8) : frameL k body ++ rest = k :: (be 4 body.length ++ (body ++ (ends (k :: be 4 body.length ++ body) ++ rest))) := by simp [frameL]
theorem frame_split2 (k : UInt8) (body rest : List UInt8) : frameL k body ++ rest = (k :: be 4 body.length ++ body) ++ (ends (k :: be 4 body.length ++ body) ++ rest) := by simp [frameL]
theorem ends_len (l : List UInt8) : (ends l).length = 4 := rfl
section
variable {k : UInt8} {body rest : List UInt8}
theorem front_n (hb : body.length ≤ 8388608) : unbe (((frameL k body ++ rest).drop 1).take 4) = body.length := by
  rw [frame_split, List.drop_succ_cons, List.drop_zero, List.take_left' (be_len 4 _), unbe_be]
  exact Nat.mod_eq_of_lt (by omega)
theorem front_len : (frameL k body ++ rest).length = body.length + 9 + rest.length := by rw [List.length_append, frame_len]
theorem front_E (hk : k ≠ 0) (hb : body.length ≤ 8388608) : readE (frameL k body ++ rest) = 0 := by
  have hn := front_n (k := k) (rest := rest) hb
  have hl := front_len (k := k) (body := body) (rest := rest)
  have h0 : (frameL k body ++ rest).getD 0 0 = k := by rw [frame_split]; rfl
  unfold readE
  rw [hn, hl, h0, if_neg (by omega), if_neg hk, if_neg (by omega), if_neg (by omega), if_neg (by omega), if_neg]
  have hh : (k :: be 4 body.length ++ body).length = 5 + body.length := by simp [be_len]; omega
  rw [frame_split2, List.take_left' hh, List.drop_left' hh, List.take_left' (ends_len _)]
  exact fun h => h rfl
theorem front_N (hb : body.length ≤ 8388608) : readN (frameL k body ++ rest) = body.length := front_n hb
theorem front_K : readK (frameL k body ++ rest) = k := by unfold readK; rw [frame_split]; rfl
theorem front_B (hb : body.length ≤ 8388608) : readB (frameL k body ++ rest) = body := by
  unfold readB
  rw [front_N hb]
  have h5 : (frameL k body ++ rest).drop 5 = body ++ (ends (k :: be 4 body.length ++ body) ++ rest) := by
    rw [frame_split, show k :: (be 4 body.length ++ (body ++ (ends (k :: be 4 body.length ++ body) ++ rest))) = (k :: be 4 body.length) ++ (body ++ (ends (k :: be 4 body.length ++ body) ++ rest)) from by simp]
    exact List.drop_left' (by simp [be_len])
  rw [h5, List.take_left' rfl]
end
theorem one_ok {n : Nat} {e : List UInt8} (hn : n ≤ 4611686018427387904) (he : e.length ≤ 4096) : takeOk (oneL n e) = true ∧ takeN (oneL n e) = n ∧ takeB (oneL n e) = e := by
  have hl := one_len n e
  have h8 : (oneL n e).take 8 = be 8 n := by unfold oneL; rw [List.append_assoc]; exact List.take_left' (be_len 8 n)
  have h2 : ((oneL n e).drop 8).take 2 = be 2 e.length := by
    unfold oneL
    rw [List.append_assoc, List.drop_left' (be_len 8 n)]
    exact List.take_left' (be_len 2 _)
  have u8 : unbe (be 8 n) = n := by rw [unbe_be]; exact Nat.mod_eq_of_lt (by omega)
  have u2 : unbe (be 2 e.length) = e.length := by rw [unbe_be]; exact Nat.mod_eq_of_lt (by omega)
  refine ⟨?_, ?_, ?_⟩
  · unfold takeOk
    rw [h8, h2, u8, u2, hl]
    simp
    omega
  · unfold takeN; rw [h8, u8]
  · unfold takeB oneL
    exact List.drop_left' (by simp [be_len])
/-- entries that may stand in a segment from n on -/
def EntOk (n : Nat) (L : List (List UInt8)) : Prop := L.length ≤ 4096 ∧ (∀ e ∈ L, e.length ≤ 4096) ∧ n + L.length ≤ 4611686018427387905
theorem EntOk.left {n : Nat} {L M : List (List UInt8)} (h : EntOk n (L ++ M)) : EntOk n L := ⟨by have := h.1; simp at this; omega, fun e he => h.2.1 e (List.mem_append_left _ he), by have := h.2.2; simp at this; omega⟩
theorem encL_app (n : Nat) (L M : List (List UInt8)) : encL n (L ++ M) = encL n L ++ encL (n + L.length) M := by
  induction L generalizing n with
  | nil => simp [encL]
  | cons a r ih => simp [encL, ih, Nat.add_assoc, Nat.add_comm 1]
theorem seg_step {n : Nat} {L : List (List UInt8)} {e : List UInt8} {rest : List UInt8} (h : EntOk n (L ++ [e])) :
    atE n (encL n (L ++ [e]) ++ rest) ⟨L, (encL n L).length, 0⟩ = 0 ∧ segNext (encL n (L ++ [e]) ++ rest) ⟨L, (encL n L).length, 0⟩ = ⟨L ++ [e], (encL n (L ++ [e])).length, 0⟩ := by
  have hl := h.1
  simp at hl
  have he := h.2.1 e (by simp)
  have hn := h.2.2
  simp at hn
  have hd : (encL n (L ++ [e]) ++ rest).drop (encL n L).length = frameL 101 (oneL (n + L.length) e) ++ rest := by
    rw [encL_snoc, List.append_assoc]
    exact List.drop_left' rfl
  have hb : (oneL (n + L.length) e).length ≤ 8388608 := by rw [one_len]; omega
  obtain ⟨o1, o2, o3⟩ := one_ok (n := n + L.length) (e := e) (by omega) he
  constructor
  · unfold atE
    simp only [hd, front_E (show (101 : UInt8) ≠ 0 from by decide) hb, front_K, front_B hb, o1, o2]
    rw [if_neg (by omega), if_neg (by simp), if_neg (by simp), if_neg (by simp)]
  · unfold segNext
    simp only [hd, front_N hb, front_B hb, o3]
    rw [encL_snoc, List.length_append, frame_len]
theorem seg_run {n : Nat} (L M : List (List UInt8)) (rest : List UInt8) (h : EntOk n (L ++ M)) (k : Nat) :
    segFrom n (encL n (L ++ M) ++ rest) (k + M.length) ⟨L, (encL n L).length, 0⟩ = segFrom n (encL n (L ++ M) ++ rest) k ⟨L ++ M, (encL n (L ++ M)).length, 0⟩ := by
  induction M generalizing L with
  | nil => simp
  | cons e r ih =>
    have e1 : L ++ e :: r = (L ++ [e]) ++ r := by simp
    have h2 : EntOk n ((L ++ [e]) ++ r) := by rw [← e1]; exact h
    have h3 := seg_step (rest := encL (n + (L ++ [e]).length) r ++ rest) h2.left
    have e2 : encL n (L ++ [e]) ++ (encL (n + (L ++ [e]).length) r ++ rest) = encL n (L ++ e :: r) ++ rest := by rw [e1, encL_app n (L ++ [e]) r, List.append_assoc]
    rw [e2] at h3
    have hlt : (encL n L).length < (encL n (L ++ e :: r) ++ rest).length := by
      rw [e1, encL_app n (L ++ [e]) r, encL_snoc]
      simp only [List.length_append, frame_len]
      omega
    rw [show k + (e :: r).length = (k + r.length) + 1 from by simp; omega, segFrom_on _ _ _ _ hlt h3.1, h3.2]
    have := ih (L ++ [e]) h2
    rw [← e1] at this
    exact this
theorem encL_cnt (n : Nat) (L : List (List UInt8)) : L.length ≤ (encL n L).length := by
  induction L generalizing n with
  | nil => simp
  | cons e r ih =>
    have := ih (n + 1)
    simp only [encL, List.length_append, frame_len, List.length_cons]
    omega
/-- whole frames, with something behind -/
theorem seg_behind {n : Nat} {L : List (List UInt8)} (rest : List UInt8) (h : EntOk n L) : ∃ k, rest.length ≤ k ∧ segL n (encL n L ++ rest) = segFrom n (encL n L ++ rest) k ⟨L, (encL n L).length, 0⟩ := by
  have h1 := encL_cnt n L
  refine ⟨(encL n L ++ rest).length - L.length, by rw [List.length_append]; omega, ?_⟩
  have h2 := seg_run [] L rest (by simpa using h) ((encL n L ++ rest).length - L.length)
  rw [List.nil_append, Nat.sub_add_cancel (by rw [List.length_append]; omega)] at h2
  exact h2
/-- Decode of Encode -/
theorem seg_enc {n : Nat} {L : List (List UInt8)} (h : EntOk n L) : segL n (encL n L) = ⟨L, (encL n L).length, 0⟩ := by
  obtain ⟨k, _, e⟩ := seg_behind [] h
  rw [List.append_nil] at e
  rw [e, segFrom_done _ _ _ _ (Nat.le_refl _)]
/-- with noughts behind -/
theorem seg_noughts {n : Nat} {L : List (List UInt8)} (h : EntOk n L) : segL n (encL n L ++ [0, 0, 0]) = ⟨L, (encL n L).length, if L.length = 4096 then 5 else 171⟩ := by
  obtain ⟨k, hk, e⟩ := seg_behind [0, 0, 0] h
  have hd : (encL n L ++ [0, 0, 0]).drop (encL n L).length = [0, 0, 0] := List.drop_left' rfl
  have hE : readE [0, 0, 0] = 171 := by decide
  have ha : atE n (encL n L ++ [0, 0, 0]) ⟨L, (encL n L).length, 0⟩ = if L.length = 4096 then 5 else 171 := by
    unfold atE
    simp only [hd, hE]
    split
    · rfl
    · rw [if_pos (by decide)]
  rw [e, segFrom_stop _ _ _ _ (by rw [List.length_append]; simp) (by rw [ha]; split <;> omega) (by simp at hk; omega), ha]
/-- the beginning of a frame is no frame -/
theorem part_E {k : UInt8} {body : List UInt8} {m : Nat} (hk : k ≠ 0) (hb : body.length ≤ 8388608) (h0 : 0 < m) (hm : m < (frameL k body).length) : readE ((frameL k body).take m) = 170 := by
  have hl : ((frameL k body).take m).length = m := by rw [List.length_take]; omega
  rw [frame_len] at hm
  have hg : ((frameL k body).take m).getD 0 0 = k := by
    obtain ⟨m', rfl⟩ : ∃ m', m = m' + 1 := ⟨m - 1, by omega⟩
    have := frame_split k body []
    rw [List.append_nil] at this
    rw [this]; rfl
  unfold readE
  rw [hl, hg, if_neg (by omega), if_neg hk]
  by_cases h5 : m < 5
  · rw [if_pos h5]
  · have hn : unbe ((((frameL k body).take m).drop 1).take 4) = body.length := by
      have e : (((frameL k body).take m).drop 1).take 4 = ((frameL k body ++ []).drop 1).take 4 := by
        rw [List.append_nil, List.drop_take, List.take_take, Nat.min_eq_left (by omega)]
      rw [e, front_n hb]
    rw [if_neg h5, hn, if_neg (by omega), if_pos (by omega)]
/-- a beginning of frames: so many entries are whole -/
theorem seg_part {n : Nat} {L : List (List UInt8)} {e : List UInt8} {m : Nat} (h : EntOk n (L ++ [e])) (h0 : 0 < m) (hm : m < (frameL 101 (oneL (n + L.length) e)).length) :
    segL n (encL n L ++ (frameL 101 (oneL (n + L.length) e)).take m) = ⟨L, (encL n L).length, 170⟩ := by
  have he := h.2.1 e (by simp)
  have hb : (oneL (n + L.length) e).length ≤ 8388608 := by rw [one_len]; omega
  have hlen : ((frameL 101 (oneL (n + L.length) e)).take m).length = m := by rw [List.length_take]; omega
  obtain ⟨k, hk, q⟩ := seg_behind ((frameL 101 (oneL (n + L.length) e)).take m) h.left
  have hd : (encL n L ++ (frameL 101 (oneL (n + L.length) e)).take m).drop (encL n L).length = (frameL 101 (oneL (n + L.length) e)).take m := List.drop_left' rfl
  have hl := h.1
  simp at hl
  have ha : atE n (encL n L ++ (frameL 101 (oneL (n + L.length) e)).take m) ⟨L, (encL n L).length, 0⟩ = 170 := by
    unfold atE
    simp only [hd, part_E (show (101 : UInt8) ≠ 0 from by decide) hb h0 hm]
    rw [if_neg (by omega), if_pos (by decide)]
  rw [q, segFrom_stop _ _ _ _ (by rw [List.length_append, hlen]; show (encL n L).length < _; omega) (by rw [ha]; decide) (by omega), ha]
/-- where a beginning of frames ends -/
theorem enc_take (n : Nat) (L : List (List UInt8)) (m : Nat) : (∃ j, j ≤ L.length ∧ (encL n L).take m = encL n (L.take j)) ∨ ∃ j e q, L[j]? = some e ∧ 0 < q ∧ q < (frameL 101 (oneL (n + j) e)).length ∧ (encL n L).take m = encL n (L.take j) ++ (frameL 101 (oneL (n + j) e)).take q := by
  induction L generalizing n m with
  | nil => exact .inl ⟨0, Nat.le_refl _, by simp [encL]⟩
  | cons e r ih =>
    by_cases h0 : m = 0
    · exact .inl ⟨0, Nat.zero_le _, by subst h0; simp [encL]⟩
    by_cases h1 : m < (frameL 101 (oneL n e)).length
    · refine .inr ⟨0, e, m, rfl, by omega, h1, ?_⟩
      rw [encL, List.take_append_of_le_length (by omega)]
      simp [encL]
    · have hs : (encL n (e :: r)).take m = frameL 101 (oneL n e) ++ (encL (n + 1) r).take (m - (frameL 101 (oneL n e)).length) := by
        rw [encL, List.take_append, List.take_of_length_le (by omega)]
      rcases ih (n + 1) (m - (frameL 101 (oneL n e)).length) with ⟨j, hj, q⟩ | ⟨j, d, q, hd, hq0, hq1, q2⟩
      · exact .inl ⟨j + 1, by simp; omega, by rw [hs, q, List.take_succ_cons, encL]⟩
      · refine .inr ⟨j + 1, d, q, by simpa using hd, hq0, by rw [show n + (j + 1) = n + 1 + j from by omega]; exact hq1, ?_⟩
        rw [hs, q2, List.take_succ_cons, encL, show n + (j + 1) = n + 1 + j from by omega, List.append_assoc]
/-- Decode of a beginning of frames: a beginning of the entries, whole, and why no more -/
theorem seg_take {n : Nat} {L : List (List UInt8)} (h : EntOk n L) (m : Nat) : ∃ j why, j ≤ L.length ∧ segL n ((encL n L).take m) = ⟨L.take j, (encL n (L.take j)).length, why⟩ ∧ ((why = 0 ∧ (encL n L).take m = encL n (L.take j)) ∨ (why = 170 ∧ (encL n (L.take j)).length < ((encL n L).take m).length)) ∧ (encL n L).take (encL n (L.take j)).length = encL n (L.take j) ∧ ((encL n (L.take j)).length ≤ m ∨ j = L.length) ∧ (∀ i, i ≤ L.length → (encL n (L.take i)).length ≤ m → i ≤ j) := by
  have hok : ∀ j, EntOk n (L.take j) := fun j => by
    have e : L.take j ++ L.drop j = L := List.take_append_drop _ _
    exact EntOk.left (M := L.drop j) (by rw [e]; exact h)
  have hpre : ∀ j, (encL n L).take (encL n (L.take j)).length = encL n (L.take j) := fun j => by
    have e : L.take j ++ L.drop j = L := List.take_append_drop _ _
    conv => lhs; rw [← e, encL_app]
    have e2 : (L.take j ++ L.drop j).take j = L.take j := by rw [e]
    rw [e2]
    exact List.take_left' rfl
  have hmono : ∀ i j, i < j → j ≤ L.length → (encL n (L.take i)).length < (encL n (L.take j)).length := fun i j hij hj => by
    have e : L.take j = L.take i ++ (L.take j).drop i := by
      have := (List.take_append_drop i (L.take j)).symm
      rwa [List.take_take, Nat.min_eq_left (by omega)] at this
    rw [e, encL_app, List.length_append]
    have h1 := encL_cnt (n + (L.take i).length) ((L.take j).drop i)
    have h2 : ((L.take j).drop i).length = j - i := by simp; omega
    omega
  rcases enc_take n L m with ⟨j, hj, q⟩ | ⟨j, e, r, he, hr0, hr1, q⟩
  · refine ⟨j, 0, hj, by rw [q, seg_enc (hok j)], .inl ⟨rfl, q⟩, hpre j, ?_, fun i hi hm => ?_⟩
    · by_cases hm : m ≤ (encL n L).length
      · left; rw [← q, List.length_take]; omega
      · right
        rw [List.take_of_length_le (by omega)] at q
        rcases Nat.lt_or_ge j L.length with hlt | hge
        · have := hmono j L.length hlt (Nat.le_refl _)
          rw [List.take_of_length_le (Nat.le_refl _), q] at this
          omega
        · omega
    · rcases Nat.lt_or_ge j i with hlt | hge
      · have h1 := hmono j i hlt hi
        have h2 : (encL n (L.take i)).length ≤ ((encL n L).take m).length := by
          rw [List.length_take]
          have h3 := hpre i
          have h4 : (encL n (L.take i)).length ≤ (encL n L).length := by
            have := congrArg List.length h3
            rw [List.length_take] at this
            omega
          omega
        rw [q] at h2
        omega
      · exact hge
  · have hjl := (List.getElem?_eq_some_iff.1 he).1
    have hts : L.take (j + 1) = L.take j ++ [e] := by rw [List.take_add_one, he]; rfl
    have hlj : (L.take j).length = j := by simp; omega
    have hp := seg_part (n := n) (L := L.take j) (e := e) (m := r) (by rw [← hts]; exact hok _) hr0 (by rw [hlj]; exact hr1)
    rw [hlj] at hp
    have hql : (((encL n L).take m)).length = (encL n (L.take j)).length + r := by rw [q, List.length_append, List.length_take]; omega
    have hml : (encL n (L.take j)).length + r ≤ m := by rw [← hql, List.length_take]; omega
    refine ⟨j, 170, by omega, by rw [q]; exact hp, .inr ⟨rfl, by omega⟩, hpre j, .inl (by omega), fun i hi hm => ?_⟩
    rcases Nat.lt_or_ge j i with hlt | hge
    · exfalso
      have h1 : (encL n (L.take (j + 1))).length ≤ (encL n (L.take i)).length := by
        rcases Nat.lt_or_ge (j + 1) i with h | h
        · exact Nat.le_of_lt (hmono _ _ h hi)
        · rw [show i = j + 1 from by omega]; exact Nat.le_refl _
      rw [hts, encL_snoc, List.length_append, hlj] at h1
      have h2 : (encL n (L.take i)).length ≤ ((encL n L).take m).length := by
        rw [List.length_take]
        have h3 := congrArg List.length (hpre i)
        rw [List.length_take] at h3
        omega
      rw [hql] at h2
      omega
    · exact hge

end Go.Proofs.YtlmdpcaikhdenaaGreat
/- Segment, plain: a disk of one file: Create, Write behind what stands, Sync, SyncNames, Stop, Cut. No program in sight. -/
namespace Go.Proofs.YtlmdpcaikhdenaaGreat

/-- a disk of one file -/
def D1 (nm : List UInt8) (R : Nat) (st la : List UInt8) (su : NL) (sp : List NStep) (ws : List Wr) (k : Nat) : DSt := ⟨R, [(st, la)], [(nm, 0)], su, sp, ws, k⟩
section
variable {nm : List UInt8} {R k : Nat} {st la : List UInt8} {su : NL} {sp : List NStep} {ws : List Wr}
theorem d1_find : nlFind (D1 nm R st la su sp ws k).names nm = some 0 := by simp [D1, nlFind]
theorem d1_stands : (D1 nm R st la su sp ws k).stands 0 = st := rfl
theorem d1_lasts : (D1 nm R st la su sp ws k).lasts 0 = la := rfl
theorem d1_used : (D1 nm R st la su sp ws k).used = st.length := by
  show ((([(nm, 0)] : NL).map fun p => ((D1 nm R st la su sp ws k).stands p.2).length).sum) = _
  simp [d1_stands]
theorem d1_text : (D1 nm R st la su sp ws k).text nm = some st := by unfold DSt.text; rw [d1_find]; rfl
theorem d1_create (R : Nat) (h : nameOk nm = true) : (DSt.empty R).create nm = (D1 nm R [] [] [] [.create nm 0] [] 1, 0) := by
  unfold DSt.create
  have hn : (DSt.empty R).names = [] := rfl
  rw [h, hn]
  rfl
theorem laid_end (st b : List UInt8) : laid st ⟨0, false, st.length, b⟩ b.length = st ++ b := by
  unfold laid
  rw [if_neg (by simp)]
  by_cases hb : b = []
  · subst hb; simp
  · have : b.length ≠ 0 := fun e => hb (List.length_eq_zero_iff.1 e)
    rw [if_neg this]
    simp
theorem d1_put {b : List UInt8} (hR : st.length + b.length ≤ R) : (D1 nm R st la su sp ws k).put nm (st.length : Int) b = (D1 nm R (st ++ b) la su sp (ws ++ [⟨0, false, st.length, b⟩]) (k + 1), 0) := by
  unfold DSt.put
  rw [d1_find]
  have hr : (D1 nm R st la su sp ws k).room = R := rfl
  simp only [d1_stands, d1_used, hr]
  rw [if_neg (by omega), if_neg (by omega)]
  refine Prod.ext ?_ rfl
  show DSt.write _ _ = _
  unfold DSt.write
  simp only [d1_stands, d1_lasts, Int.toNat_natCast, laid_end]
  rfl
theorem d1_sync (hw : ∀ x ∈ ws, x.file = 0) : (D1 nm R st la su sp ws k).sync nm = (D1 nm R st st su sp [] (k + 1), 0) := by
  unfold DSt.sync
  rw [d1_find]
  have : ws.filter (fun x => !(x.file == 0)) = [] := by
    rw [List.filter_eq_nil_iff]
    intro x hx
    simp [hw x hx]
  refine Prod.ext ?_ rfl
  show DSt.mk _ _ _ _ _ _ _ = D1 nm R st st su sp [] (k + 1)
  simp only [d1_stands]
  unfold D1
  simp [this]
theorem d1_syncNames : (D1 nm R st la su sp ws k).syncNames = (D1 nm R st la [(nm, 0)] [] ws (k + 1), 0) := rfl
theorem d1_cut {n : Nat} (hn : n ≤ st.length) : (D1 nm R st la su sp ws k).cut nm (n : Int) = (D1 nm R (st.take n) la su sp (ws ++ [⟨0, true, n, []⟩]) (k + 1), 0) := by
  unfold DSt.cut
  rw [d1_find]
  have h : ¬ ((n : Int) < 0 ∨ (((D1 nm R st la su sp ws k).stands 0).length : Int) < (n : Int)) := by rw [d1_stands]; omega
  show (if _ then _ else _) = _
  rw [if_neg h]
  refine Prod.ext ?_ rfl
  show DSt.write _ _ = _
  unfold DSt.write
  simp only [d1_stands, d1_lasts, Int.toNat_natCast]
  rfl
/-- what a stop leaves of it, where names last and at most one write is pending -/
theorem d1_stop0 (names : Int) (keep : List Bool) (torn : Int) : (D1 nm R st la [(nm, 0)] [] [] k).stop names keep torn = D1 nm R la la [(nm, 0)] [] [] 0 := by
  unfold DSt.stop
  have hn : stopNames (D1 nm R st la [(nm, 0)] [] [] k) names = [(nm, 0)] := by unfold stopNames; show List.foldl _ _ (List.take _ []) = _; simp [D1]
  simp only [hn]
  rfl
theorem d1_stop1 (names : Int) (keep : List Bool) (torn : Int) (b : List UInt8) : ∃ m, m ≤ b.length ∧ (D1 nm R st la [(nm, 0)] [] [⟨0, false, la.length, b⟩] k).stop names keep torn = D1 nm R (la ++ b.take m) (la ++ b.take m) [(nm, 0)] [] [] 0 := by
  have hn : stopNames (D1 nm R st la [(nm, 0)] [] [⟨0, false, la.length, b⟩] k) names = [(nm, 0)] := by unfold stopNames; show List.foldl _ _ (List.take _ []) = _; simp [D1]
  have key : ∀ last, ∃ m, m ≤ b.length ∧ stopFile (D1 nm R st la [(nm, 0)] [] [⟨0, false, la.length, b⟩] k) keep last torn 0 1 = la ++ b.take m := fun last => by
    show ∃ m, m ≤ b.length ∧ (if keep.getD 0 false && (0 : Nat) == 0 then laid la ⟨0, false, la.length, b⟩ (laidOf last torn 0 ⟨0, false, la.length, b⟩) else la) = la ++ b.take m
    cases hk : keep.getD 0 false with
    | false => exact ⟨0, Nat.zero_le _, by simp⟩
    | true =>
      have hle : laidOf last torn 0 ⟨0, false, la.length, b⟩ ≤ b.length := by
        unfold laidOf
        split
        · rename_i h; simp only at h; omega
        · exact Nat.le_refl _
      refine ⟨_, hle, ?_⟩
      generalize laidOf last torn 0 ⟨0, false, la.length, b⟩ = m at *
      simp only [Bool.true_and, beq_self_eq_true, if_true]
      unfold laid
      rw [if_neg (by simp)]
      by_cases h0 : m = 0
      · subst h0; simp
      · rw [if_neg h0]
        simp
  obtain ⟨m, hm, e⟩ := key (lastKept (D1 nm R st la [(nm, 0)] [] [⟨0, false, la.length, b⟩] k) [(nm, 0)] keep 1)
  refine ⟨m, hm, ?_⟩
  unfold DSt.stop
  simp only [hn]
  show DSt.ofFiles R [(nm, stopFile (D1 nm R st la [(nm, 0)] [] [⟨0, false, la.length, b⟩] k) keep (lastKept (D1 nm R st la [(nm, 0)] [] [⟨0, false, la.length, b⟩] k) [(nm, 0)] keep 1) torn 0 1)] = _
  rw [e]
  rfl
end

end Go.Proofs.YtlmdpcaikhdenaaGreat
