/- Texts of this claim, one behind the other: SgV, SgW, SgX, Nm1, SgY, DkU, DkV. -/
import Derived.Test.YtlmdpcaikhdenaaGreatSl16
import Derived.Deep.RegionHeld3
import Derived.Test.YtlmdpcaikhdenaaGreatRows
import Derived.Test.YtlmdpcaikhdenaaGreatSl01
import Derived.Outline
set_option linter.unusedSimpArgs false
set_option linter.unusedVariables false
/- Segment: entries as they are read; the references' Same; num. -/
namespace Go.Proofs.YtlmdpcaikhdenaaGreat
open Go.RowKit Go.Maps

/-- entries as they are read: the cells of a slice of slices, from its address on -/
def EntsAt (w : World) (a : Option Addr) (L : List (List UInt8)) : Prop := L ≠ [] → ∃ b off, a = some ⟨b, off, none⟩ ∧ ∀ (i : Nat) d, L[i]? = some d →
  ∃ ua uc, w.cell? ⟨b, off + i, none⟩ = some (.slice ua d.length uc) ∧ RowAt w ua (d.map bv) ∧ d.length ≤ uc ∧ (ua = none → uc = 0)
theorem EntsAt.below {w w' : World} {a : Option Addr} {L : List (List UInt8)} (h : EntsAt w a L) (hb : Below w.heap.size w w') : EntsAt w' a L := fun hL => by
  obtain ⟨b, off, e, hc⟩ := h hL
  refine ⟨b, off, e, fun i d hd => ?_⟩
  obtain ⟨ua, uc, h2, h3, h4⟩ := hc i d hd
  exact ⟨ua, uc, (hb.cell (p := ⟨b, off + i, none⟩) (cell_lt h2)).trans h2, h3.below hb, h4⟩
theorem EntsAt.nil (w : World) (a : Option Addr) : EntsAt w a [] := fun h => absurd rfl h
theorem EntIn.at_ {R : Nat → Prop} {w : World} {v : Value} {L : List (List UInt8)} (h : EntIn R w v L) : ∃ a c, v = .slice a L.length c ∧ EntsAt w a L := by
  obtain ⟨vs, h1, h2, h3, h4⟩ := h
  obtain ⟨a, c, rfl, hr, _⟩ := RowAt.of_owns h1
  refine ⟨a, c, rfl, fun hL => ?_⟩
  obtain ⟨b, off, rfl, hc⟩ := hr (fun e => hL (by have h3' := h3; rw [e] at h3'; exact List.length_eq_zero_iff.1 h3'.symm))
  refine ⟨b, off, rfl, fun i d hd => ?_⟩
  have hi : i < vs.length := by rw [h3]; exact (List.getElem?_eq_some_iff.1 hd).1
  have hv : vs[i]? = some vs[i] := by simp
  obtain ⟨ua, uc, e, hle, hnl, hrow, _⟩ := h4 i _ d hv hd
  rw [e] at hv
  exact ⟨ua, uc, hc i _ hv, hrow, hle, hnl⟩
theorem num17_any (v : Value) (w : World) : Calls Tryz.prog 11 #[v] w fun e w' => e = .returned v ∧ w = w' := by
  go_enter Tryz.func11, Tryz.ntmps11
  go_wp2
  go_ret
  exact ⟨rfl, rfl⟩
set_option maxHeartbeats 2000000 in
theorem rsame_any {w : World} {a b : Option Addr} {c d : Nat} {L M : List (List UInt8)} (h1 : EntsAt w a L) (h2 : EntsAt w b M) (hl : L.length ≤ maxLen) :
    Calls Tryz.prog 15 #[.slice a L.length c, .slice b M.length d] w fun e w' => e = .returned (.bool (L == M)) ∧ Below w.heap.size w w' := by
  have hmax : maxLen = 9223372036854775807 := rfl
  have hn : ∀ t : Bool, (L == M) = t → Ending.returned (.bool t) = .returned (.bool (L == M)) := fun t h => by rw [h]
  have HN := Lib.hid hn; clear hn
  by_cases hlen : L.length = M.length
  · have i1 : ((L.length : Int) != (M.length : Int)) = false := by simp [hlen]
    have i2 : ((L.length : Int) == (M.length : Int)) = true := by simp [hlen]
    go_enter Tryz.func15, Tryz.ntmps15
    go_wp2
    go_loopw [5] (fun i wr => ∃ k : Nat, k ≤ L.length ∧ i = .int .i64 k ∧ Below w.heap.size w wr ∧ Hid (∀ j, j < k → L[j]? = M[j]?)) (fun i _ => L.length - (RowKit.intOf i).toNat)
    case atStart => exact ⟨0, by omega, rfl, Below.refl _ _, fun j hj => by omega⟩
    case round =>
      obtain ⟨k, hk, rfl, hb, HA⟩ := hrel
      by_cases hlt : k < L.length
      · obtain ⟨x, hx⟩ : ∃ x, L[k]? = some x := ⟨L[k]'hlt, by simp⟩
        obtain ⟨y, hy⟩ : ∃ y, M[k]? = some y := ⟨M[k]'(by omega), by simp⟩
        obtain ⟨b1, o1, rfl, c1⟩ := (h1.below hb) (fun e => by rw [e] at hlt; simp at hlt)
        obtain ⟨b2, o2, rfl, c2⟩ := (h2.below hb) (fun e => by
          have h0 : M.length = 0 := by rw [e]; rfl
          omega)
        obtain ⟨ua, uc, u1, r1, _⟩ := c1 k x hx
        obtain ⟨va, vc, u2, r2, _⟩ := c2 k y hy
        have q1 : ∀ q, (convert 26 9 (.slice ua x.length uc)).run Tryz.prog (wr.drewN q) = .ok (.string ⟨x.toArray⟩) (wr.drewN q) := fun q => run_conv (P := Tryz.prog) 26 9 5 Tryz.underlying26 Tryz.underlying5 Tryz.underlying9 (c := uc) (r1.below (below_drewN (Below.refl _ wr) q))
        have q2 : ∀ q, (convert 26 9 (.slice va y.length vc)).run Tryz.prog (wr.drewN q) = .ok (.string ⟨y.toArray⟩) (wr.drewN q) := fun q => run_conv (P := Tryz.prog) 26 9 5 Tryz.underlying26 Tryz.underlying5 Tryz.underlying9 (c := vc) (r2.below (below_drewN (Below.refl _ wr) q))
        have HX := Lib.hid hx; have HY := Lib.hid hy; clear hx hy r1 r2 c1 c2
        have HL := Lib.hid hlen
        have j0 : (k : Int) < (L.length : Int) := by omega
        have j1 : (k : Int) < (M.length : Int) := by omega
        by_cases he2 : x = y
        · have e3 : (x == y) = true := by simpa using he2
          have e4 : (x != y) = false := by simpa using he2
          have HS : Hid (∀ j, j < k + 1 → L[j]? = M[j]?) := Lib.hid (fun j hj => by
            by_cases e : j = k
            · subst e; rw [HX.out, HY.out, he2]
            · exact HA.out j (by omega))
          clear hlen he2
          go_wp2
          go_quiet (fail)
          go_wp2
          go_roundw
          case rel => exact ⟨k + 1, by omega, by go_num, below_drewN hb _, HS⟩
          case measure => simp [RowKit.intOf]; omega
        · have e3 : (x == y) = false := by simpa using he2
          have e4 : (x != y) = true := by simpa using he2
          have HE : Hid (x ≠ y) := Lib.hid he2
          clear hlen he2
          go_wp2
          go_quiet (fail)
          go_wp2
          go_ret
          exact ⟨HN.out _ (list_ne_at HX.out HY.out HE.out), below_drewN hb _⟩
      · obtain rfl : k = L.length := by omega
        have HL := Lib.hid hlen; clear hlen
        go_wp2
        go_ret
        exact ⟨HN.out _ (list_eq_at HL.out HA.out), hb⟩
  · have i1 : ((L.length : Int) != (M.length : Int)) = true := by simp; omega
    have i2 : ((L.length : Int) == (M.length : Int)) = false := by simp; omega
    have HL := Lib.hid hlen; clear hlen
    go_enter Tryz.func15, Tryz.ntmps15
    go_wp2
    go_ret
    exact ⟨HN.out _ (list_ne_len HL.out), Below.refl _ _⟩

end Go.Proofs.YtlmdpcaikhdenaaGreat
/- Segment: the reference's Same of two segments. -/
namespace Go.Proofs.YtlmdpcaikhdenaaGreat
open Go.RowKit Go.Maps

set_option maxHeartbeats 4000000 in
theorem rsegSame_any {w : World} {a b : Option Addr} {c d : Nat} {L M : List (List UInt8)} {f1 g1 z1 y1 f2 g2 z2 y2 : Int} (h1 : EntsAt w a L) (h2 : EntsAt w b M) (hl : L.length ≤ maxLen) :
    Calls Tryz.prog 22 #[.agg #[.int .i64 f1, .slice a L.length c, .int .i64 g1, .int .i64 z1, .int .i64 y1], .agg #[.int .i64 f2, .slice b M.length d, .int .i64 g2, .int .i64 z2, .int .i64 y2]] w fun e w' => e = .returned (.bool (f1 == f2 && g1 == g2 && z1 == z2 && y1 == y2 && L == M)) ∧ Below w.heap.size w w' := by
  obtain ⟨w1, hw1⟩ : ∃ w1, (w.alloc (.cells #[.int .i64 f1, .slice a L.length c, .int .i64 g1, .int .i64 z1, .int .i64 y1] 42)).alloc (.cells #[.int .i64 f2, .slice b M.length d, .int .i64 g2, .int .i64 z2, .int .i64 y2] 42) = w1 := ⟨_, rfl⟩
  have hb1 : Below w.heap.size w w1 := by rw [← hw1]; exact (below_alloc w _).alloc (by simp) _
  have hx0 : w1.heap[w.heap.size]? = some (.cells #[.int .i64 f1, .slice a L.length c, .int .i64 g1, .int .i64 z1, .int .i64 y1] 42 (0, 0)) := by rw [← hw1]; exact (Below.heap_alloc _ _ _ (by simp)).trans (World.alloc_heap_new w _)
  have hx1 : w1.heap[w.heap.size + 1]? = some (.cells #[.int .i64 f2, .slice b M.length d, .int .i64 g2, .int .i64 z2, .int .i64 y2] 42 (0, 0)) := by rw [← hw1]; have := World.alloc_heap_new (w.alloc (.cells #[.int .i64 f1, .slice a L.length c, .int .i64 g1, .int .i64 z1, .int .i64 y1] 42)) (.cells #[.int .i64 f2, .slice b M.length d, .int .i64 g2, .int .i64 z2, .int .i64 y2] 42); rwa [World.size_alloc] at this
  have p0 := cell_of_heap hx0 (i := 0) (v := .int .i64 f1) (by rfl)
  have p1 := cell_of_heap hx0 (i := 1) (v := .slice a L.length c) (by rfl)
  have p2 := cell_of_heap hx0 (i := 2) (v := .int .i64 g1) (by rfl)
  have p3 := cell_of_heap hx0 (i := 3) (v := .int .i64 z1) (by rfl)
  have p4 := cell_of_heap hx0 (i := 4) (v := .int .i64 y1) (by rfl)
  have q0 := cell_of_heap hx1 (i := 0) (v := .int .i64 f2) (by rfl)
  have q1 := cell_of_heap hx1 (i := 1) (v := .slice b M.length d) (by rfl)
  have q2 := cell_of_heap hx1 (i := 2) (v := .int .i64 g2) (by rfl)
  have q3 := cell_of_heap hx1 (i := 3) (v := .int .i64 z2) (by rfl)
  have q4 := cell_of_heap hx1 (i := 4) (v := .int .i64 y2) (by rfl)
  have hS : ∀ W, Below w.heap.size w W → Calls Tryz.prog 15 #[.slice a L.length c, .slice b M.length d] W fun e w' => e = .returned (.bool (L == M)) ∧ Below W.heap.size W w' := fun W hb => rsame_any (h1.below hb) (h2.below hb) hl
  have hS1 := hS w1 hb1
  have HS := Lib.hid hS
  have HW := Lib.hid hw1
  have HB := Lib.hid hb1
  clear hw1 hx0 hx1 hb1 hS h1 h2
  by_cases e1 : f1 = f2
  · have i1 : (f1 == f2) = true := by simpa using e1
    by_cases e2 : g1 = g2
    · have i2 : (g1 == g2) = true := by simpa using e2
      by_cases e3 : z1 = z2
      · have i3 : (z1 == z2) = true := by simpa using e3
        by_cases e4 : y1 = y2
        · have i4 : (y1 == y2) = true := by simpa using e4
          clear e1 e2 e3 e4
          go_enter Tryz.func22, Tryz.ntmps22
          go_wp2_with (first | rw [HW.out] | (go_at_call 15; refine hS1.mono ?_; rintro _ w2 ⟨rfl, hb2⟩))
          go_ret
          exact ⟨by rw [i1, i2, i3, i4]; simp, HB.out.trans (hb2.mono HB.out.size)⟩
        · have i4 : (y1 == y2) = false := by simpa using e4
          clear e1 e2 e3 e4
          go_enter Tryz.func22, Tryz.ntmps22
          go_wp2_with (rw [HW.out])
          go_ret
          exact ⟨by rw [i1, i2, i3, i4]; simp, HB.out⟩
      · have i3 : (z1 == z2) = false := by simpa using e3
        clear e1 e2 e3
        go_enter Tryz.func22, Tryz.ntmps22
        go_wp2_with (rw [HW.out])
        go_ret
        exact ⟨by rw [i1, i2, i3]; simp, HB.out⟩
    · have i2 : (g1 == g2) = false := by simpa using e2
      clear e1 e2
      go_enter Tryz.func22, Tryz.ntmps22
      go_wp2_with (rw [HW.out])
      go_ret
      exact ⟨by rw [i1, i2]; simp, HB.out⟩
  · have i1 : (f1 == f2) = false := by simpa using e1
    clear e1
    go_enter Tryz.func22, Tryz.ntmps22
    go_wp2_with (rw [HW.out])
    go_ret
    exact ⟨by rw [i1]; simp, HB.out⟩

end Go.Proofs.YtlmdpcaikhdenaaGreat
/- Segment: spoilt, which writes over the bytes of entries. (printed by gen/spoilt17.py) -/
namespace Go.Proofs.YtlmdpcaikhdenaaGreat
open Go.RowKit Go.Maps

/-- a store into a block that a row of bytes, or another one, lies in -/
theorem ownsRow_put {w : World} {e : TypeId} {v : Value} {n g k : Nat} {xs : List Value} (h : w.ownsRow 0 e 1 v n xs) (u : Value) : ∃ ys, (w.setCell ⟨g, k, none⟩ u).ownsRow 0 e 1 v n ys ∧ ∀ y ∈ ys, y ∈ xs ∨ y = u := by
  by_cases hv : v.ownBlock = some g
  · rcases h.2 with ⟨rfl, _⟩ | ⟨g', cap, cur, rfl, hb, hh, h1, h2, h3, h4⟩
    · cases hv
    · obtain rfl : g' = g := by simpa [Value.ownBlock] using hv
      refine ⟨(cur.setIfInBounds k u).toList.take (n * 1), ⟨?_, .inr ⟨g', cap, cur.setIfInBounds k u, rfl, hb, ?_, h1, h2, by simpa using h3, rfl⟩⟩, fun y hy => ?_⟩
      · have := h.1; rw [← h4] at this; simpa using this
      · simp [World.setCell, Array.getElem?_modify, hh]
      · rw [Array.toList_setIfInBounds, List.take_set] at hy
        rw [← h4]
        exact List.mem_or_eq_of_mem_set hy
  · exact ⟨xs, ownsRow_setCell_other (a := ⟨g, k, none⟩) h hv u, fun y hy => .inl hy⟩
/-- the bytes of entries that may be written -/
def BytesOk (w : World) (vs : List Value) : Prop := ∀ x ∈ vs, ∃ n ys, w.ownsRow 0 5 1 x n ys ∧ n ≤ maxLen ∧ ∀ y ∈ ys, ∃ u : UInt8, y = bv u
theorem BytesOk.put {w : World} {vs : List Value} (h : BytesOk w vs) (g k : Nat) (u : UInt8) : BytesOk (w.setCell ⟨g, k, none⟩ (bv u)) vs := fun x hx => by
  obtain ⟨n, ys, h1, h2, h3⟩ := h x hx
  obtain ⟨zs, k1, k2⟩ := ownsRow_put (g := g) (k := k) h1 (bv u)
  exact ⟨n, zs, k1, h2, fun y hy => (k2 y hy).elim (h3 y) (fun e => ⟨u, e⟩)⟩
theorem BytesOk.drew {w : World} {vs : List Value} (h : BytesOk w vs) : BytesOk w.drew vs := h

end Go.Proofs.YtlmdpcaikhdenaaGreat
/- Walks of the names layer: how a name is made, by the program and by the reference. -/
namespace Go.Proofs.YtlmdpcaikhdenaaGreat
open Go.RowKit

def nib (n k : Nat) : Nat := n / 2 ^ (60 - 4 * k) % 16
def hexB (n : Nat) : UInt8 := if n < 10 then UInt8.ofNat (48 + n) else UInt8.ofNat (87 + n)
def nameL (h : UInt8) (n : Nat) (k : Nat) : List UInt8 := h :: (List.range k).map (fun j => hexB (nib n j))

theorem nib_lt (n k : Nat) : nib n k < 16 := by unfold nib; omega
theorem nameL_len (h : UInt8) (n k : Nat) : (nameL h n k).length = k + 1 := by simp [nameL]
theorem nameL_snoc (h : UInt8) (n k : Nat) : nameL h n (k + 1) = nameL h n k ++ [hexB (nib n k)] := by simp [nameL, List.range_succ]

theorem Tryz.infoNm5 : (Tryz.prog.info? 5).map (fun i => (i.zero, i.size, i.bytes)) = some (some (.int .u8 0), 1, 1) := by kernel_rfl

def hexS : ByteArray := ⟨#[48, 49, 50, 51, 52, 53, 54, 55, 56, 57, 97, 98, 99, 100, 101, 102]⟩
theorem lt16 {x : Nat} (hx : x < 16) : x = 0 ∨ x = 1 ∨ x = 2 ∨ x = 3 ∨ x = 4 ∨ x = 5 ∨ x = 6 ∨ x = 7 ∨ x = 8 ∨ x = 9 ∨ x = 10 ∨ x = 11 ∨ x = 12 ∨ x = 13 ∨ x = 14 ∨ x = 15 := by omega
theorem hex_at (x : Nat) (hx : x < 16) : ∃ h : x < hexS.size, hexS[x] = hexB x := by
  rcases lt16 hx with h | h | h | h | h | h | h | h | h | h | h | h | h | h | h | h <;> subst h <;> exact ⟨by decide, by decide⟩

theorem and15_i64 (x : Int) (h0 : 0 ≤ x) (h1 : x ≤ 9223372036854775807) : bits .and .i64 x 15 = x % 16 := by
  have e : (2:Int)^63 = 9223372036854775808 := by decide
  exact bits_mask .i64 63 (by decide) (by intro n h0 h1; rw [e] at h1; exact IntWalk.i64_in n ⟨by omega, by omega⟩) 4 (by decide) x h0 (by rw [e]; omega)

theorem run_idx_hex (x : Nat) (hx : x < 16) (w : World) : (Instr.index 9 (.string ⟨#[48, 49, 50, 51, 52, 53, 54, 55, 56, 57, 97, 98, 99, 100, 101, 102]⟩) (.int .i64 (x : Int))).run Tryz.prog w = .ok (.int .u8 ((hexB x).toNat : Int)) w := by
  obtain ⟨h, e⟩ := hex_at x hx
  rw [← e]
  unfold hexS at *
  rw [run_index_string (t := 9) (k := .i64) (h := Tryz.underlying9)]
  rw [dif_pos ⟨by omega, by simpa using h⟩]
  simp

set_option maxRecDepth 100000 in
set_option maxHeartbeats 400000 in
theorem numbered_any (h : UInt8) (n : Nat) (w : World) (hn : (n : Int) ≤ 9223372036854775807) :
    Calls Tryz.prog 130 #[.int .u8 h.toNat, .int .i64 n] w fun e w' => e = .returned (.tuple #[.string ⟨(nameL h n 16).toArray⟩, .int .i64 0]) ∧ Below w.heap.size w w' := by
  obtain ⟨i0, hi, hz0, hz1, hz2⟩ := info_parts Tryz.infoNm5
  go_enter Tryz.func130, Tryz.ntmps130
  go_wp2
  go_loopw [6, 7] (fun v i wr => ∃ k : Nat, k ≤ 16 ∧ i = .int .i64 (60 - 4 * k) ∧ wr.ownsRow w.heap.size 5 1 v (k + 1) ((nameL h n k).map bv) ∧ Below w.heap.size w wr) (fun _ i _ => (intOf i + 4).toNat)
  case atStart => exact ⟨0, by omega, rfl, ownsRow_lit w _ #[bv h] 5 1 1 (Nat.le_refl _) (by decide) rfl, (Below.refl _ _).alloc (Nat.le_refl _) _⟩
  case round =>
    obtain ⟨k, hk, rfl, hown, hb⟩ := hrel
    have hL := nameL_len h n k
    have hsz := hb.size
    by_cases hlt : k < 16
    · have hx : ∃ x, x = nib n k := ⟨_, rfl⟩
      obtain ⟨x, hx⟩ := hx
      have hx0 : x < 16 := by subst hx; exact nib_lt _ _
      have hbits : bits .and .i64 ((n:Int) / 2^(60-4*k)) 15 = x := by
        rw [and15_i64 _ (Int.ediv_nonneg (by omega) (Int.le_of_lt (Int.pow_pos (by decide)))) (by exact Int.le_trans (Int.ediv_le_self _ (by omega)) hn), hx, nib]
        norm_cast
      have hidx := run_idx_hex x hx0
      have HX := Lib.hid hx; clear hx
      go_wp2_with (at_builtin; refine wpList_append_own _ rfl _ _ 26 rfl w.heap.size 5 i0 (.int .u8 0) 1 1 Tryz.underlying26 hi hz0 hz1 hz2 rfl (by decide) _ _ _ rfl (hown.alloc _) ⟨wr.heap.size, 0, none⟩ 1 1 [bv (hexB x)] rfl rfl (cell_one_new _ _ _) (by simp [bv, Value.oneCell']) (by unfold maxLen; omega) (by omega) (by simp; omega) ?_; intro v' w1 hown1 hgrow _)
      have hb1 := (hb.alloc hsz _).grown hgrow (by simp; omega) (fun k hk => (hown.lt k hk).1)
      go_roundw
      case rel => exact ⟨k + 1, by omega, by go_num, by rw [nameL_snoc, ← HX.out, List.map_append]; exact hown1, hb1⟩
      case measure => simp [intOf]; omega
    · have hk16 : k = 16 := by omega
      subst hk16
      have hcv := run_convert_row 26 9 5 Tryz.underlying26 Tryz.underlying5 Tryz.underlying9 (l := nameL h n 16) (by rw [hL]; exact hown)
      clear hL
      go_wp2
      go_ret2
      exact ⟨rfl, hb⟩

theorem numbered_neg (h : UInt8) (n : Int) (w : World) (hn : n < 0) :
    Calls Tryz.prog 130 #[.int .u8 h.toNat, .int .i64 n] w fun e w' => e = .returned (.tuple #[.string ⟨#[]⟩, .int .i64 4]) ∧ w = w' := by
  go_enter Tryz.func130, Tryz.ntmps130
  go_wp2
  go_ret2
  exact ⟨rfl, rfl⟩

/-- what a name's maker answers -/
def nameAns (h : UInt8) (n : Int) : Value := if n < 0 then .tuple #[.string ⟨#[]⟩, .int .i64 4] else .tuple #[.string ⟨(nameL h n.toNat 16).toArray⟩, .int .i64 0]

theorem numbered_all (h : UInt8) (n : Int) (w : World) (hn : n ≤ 9223372036854775807) :
    Calls Tryz.prog 130 #[.int .u8 h.toNat, .int .i64 n] w fun e w' => e = .returned (nameAns h n) ∧ Below w.heap.size w w' := by
  unfold nameAns
  by_cases h0 : n < 0
  · rw [if_pos h0]; exact (numbered_neg h n w h0).mono fun e w' ⟨a, b⟩ => ⟨a, b ▸ Below.refl _ _⟩
  · obtain ⟨m, rfl⟩ := Int.eq_ofNat_of_zero_le (by omega : 0 ≤ n)
    rw [if_neg h0]; exact numbered_any h m w hn


theorem Segment_any (n : Int) (w : World) (hn : n ≤ 9223372036854775807) :
    Calls Tryz.prog 84 #[.int .i64 n] w fun e w' => e = .returned (nameAns 115 n) ∧ Below w.heap.size w w' := by
  have hc := numbered_all 115 n w hn
  by_cases h0 : n < 0
  all_goals
    simp only [nameAns, h0, if_true, if_false] at hc ⊢
    go_enter Tryz.func84, Tryz.ntmps84
    go_wp2_with (go_at_call 130; refine hc.mono ?_; rintro e w' ⟨rfl, hb⟩)
    go_ret2
    exact ⟨rfl, hb⟩

end Go.Proofs.YtlmdpcaikhdenaaGreat
/- Segment: fits. -/
namespace Go.Proofs.YtlmdpcaikhdenaaGreat
open Go.RowKit Go.Maps

/-- may entries from a number on be written behind so many others? -/
def fitsE (f : Int) (many : Nat) (L : List (List UInt8)) : Nat :=
  if f < 0 ∨ 4611686018427387904 < f ∨ (0 < L.length ∧ 4611686018427387905 - ((many : Int) + (L.length : Int)) < f) then 4
  else if 4096 < many + L.length then 5 else if ∃ e ∈ L, 4096 < e.length then 3 else 0
set_option maxRecDepth 100000 in
set_option maxHeartbeats 4000000 in
theorem fits_any {w : World} {f : Int} {many : Nat} (hmany : many ≤ 1000000000) {a : Option Addr} {c : Nat} {L : List (List UInt8)} (h : EntsAt w a L) (hl : L.length ≤ 1000000000) :
    Calls Tryz.prog 37 #[.int .i64 f, .int .i64 (many : Int), .slice a L.length c] w fun e w' => e = .returned (.int .i64 (fitsE f many L : Int)) ∧ Below w.heap.size w w' := by
  have hmax : maxLen = 9223372036854775807 := rfl
  have hw1 : IntKind.i64.wrap ((many : Int) + (L.length : Int)) = (many : Int) + (L.length : Int) := Go.IntWalk.i64_in _ (by omega)
  have hw2 : IntKind.i64.wrap (4611686018427387905 - ((many : Int) + (L.length : Int))) = 4611686018427387905 - ((many : Int) + (L.length : Int)) := Go.IntWalk.i64_in _ (by omega)
  by_cases h1 : f < 0
  · have hE : fitsE f many L = 4 := by unfold fitsE; rw [if_pos (.inl h1)]
    have g1 : decide (f < 0) = true := by simpa using h1
    rw [hE]
    clear hE h1
    go_enter Tryz.func37, Tryz.ntmps37
    go_wp2
    go_ret
    exact ⟨rfl, Below.refl _ _⟩
  have g1 : decide (f < 0) = false := by simpa using h1
  by_cases h2 : 4611686018427387904 < f
  · have hE : fitsE f many L = 4 := by unfold fitsE; rw [if_pos (.inr (.inl h2))]
    have g2 : decide (4611686018427387904 < f) = true := by simpa using h2
    rw [hE]
    clear hE h1 h2
    go_enter Tryz.func37, Tryz.ntmps37
    go_wp2
    go_ret
    exact ⟨rfl, Below.refl _ _⟩
  have g2 : decide (4611686018427387904 < f) = false := by simpa using h2
  by_cases h3 : 0 < L.length ∧ 4611686018427387905 - ((many : Int) + (L.length : Int)) < f
  · have hE : fitsE f many L = 4 := by unfold fitsE; rw [if_pos (.inr (.inr h3))]
    have g3 : decide ((0 : Int) < (L.length : Int)) = true := by simp; exact h3.1
    have g3' : decide (0 < L.length) = true := by simpa using h3.1
    have g4 : decide (4611686018427387905 - ((many : Int) + (L.length : Int)) < f) = true := by simpa using h3.2
    rw [hE]
    clear hE h1 h2 h3
    go_enter Tryz.func37, Tryz.ntmps37
    go_wp2
    go_ret
    exact ⟨rfl, Below.refl _ _⟩
  obtain ⟨q, hq⟩ : ∃ q : Bool, (decide ((0 : Int) < (L.length : Int)) && decide (4611686018427387905 - ((many : Int) + (L.length : Int)) < f)) = q := ⟨_, rfl⟩
  have hE0 : fitsE f many L = if 4096 < many + L.length then 5 else if ∃ e ∈ L, 4096 < e.length then 3 else 0 := by
    unfold fitsE; rw [if_neg (by rintro (h | h | h); exact h1 h; exact h2 h; exact h3 h)]
  rw [hE0]
  have hg : decide ((0 : Int) < (L.length : Int)) = false ∨ (decide ((0 : Int) < (L.length : Int)) = true ∧ decide (4611686018427387905 - ((many : Int) + (L.length : Int)) < f) = false) := by
    by_cases h0 : 0 < L.length
    · refine .inr ⟨by simpa using h0, ?_⟩
      have : ¬ (4611686018427387905 - ((many : Int) + (L.length : Int)) < f) := fun e => h3 ⟨h0, e⟩
      simpa using this
    · exact .inl (by simpa using h0)
  have hg' : decide ((0 : Int) < (L.length : Int)) = decide (0 < L.length) := by by_cases h0 : 0 < L.length <;> simp [h0]
  clear hE0 h1 h2 h3 hq
  by_cases h5 : 4096 < many + L.length
  · have g5 : decide ((4096 : Int) < (many : Int) + (L.length : Int)) = true := by simp; omega
    rw [if_pos h5]
    clear h5
    rcases hg with g3 | ⟨g3, g4⟩
    all_goals
      have g3' := hg'.symm.trans g3
      clear hg'
      go_enter Tryz.func37, Tryz.ntmps37
      go_wp2
      go_ret
      exact ⟨rfl, Below.refl _ _⟩
  · have g5 : decide ((4096 : Int) < (many : Int) + (L.length : Int)) = false := by simp; omega
    rw [if_neg h5]
    clear h5
    obtain ⟨er, her⟩ : ∃ er : Nat, (if ∃ e ∈ L, 4096 < e.length then 3 else 0) = er := ⟨_, rfl⟩
    rw [her]
    have HER := Lib.hid her
    clear her
    rcases hg with g3 | ⟨g3, g4⟩
    all_goals
      have g3' := hg'.symm.trans g3
      clear hg'
      go_enter Tryz.func37, Tryz.ntmps37
      go_wp2
      clear g3 g3' g1 g2 g5 hw1 hw2
      go_loopw [38] (fun i wr => ∃ k : Nat, k ≤ L.length ∧ i = .int .i64 k ∧ w = wr ∧ Hid (∀ (j : Nat) e, j < k → L[j]? = some e → e.length ≤ 4096)) (fun i _ => L.length - (RowKit.intOf i).toNat)
      case atStart => exact ⟨0, by omega, rfl, rfl, fun j e hj => by omega⟩
      case round =>
        obtain ⟨k, hk, rfl, rfl, HA⟩ := hrel
        by_cases hlt : k < L.length
        · obtain ⟨x, hx⟩ : ∃ x, L[k]? = some x := ⟨L[k]'hlt, by simp⟩
          obtain ⟨b1, o1, rfl, c1⟩ := h (fun e => by rw [e] at hlt; simp at hlt)
          obtain ⟨ua, uc, u1, _⟩ := c1 k x hx
          have j0 : (k : Int) < (L.length : Int) := by omega
          have HX := Lib.hid hx
          clear hx c1
          by_cases h4 : 4096 < x.length
          · have g6 : decide ((4096 : Int) < (x.length : Int)) = true := by simp; omega
            have hE : (∃ e ∈ L, 4096 < e.length) := ⟨x, List.mem_of_getElem? HX.out, h4⟩
            have H3 : Hid (er = 3) := Lib.hid (by rw [← HER.out, if_pos hE])
            clear hE h4
            go_wp2
            go_ret
            exact ⟨by rw [H3.out]; rfl, Below.refl _ _⟩
          · have g6 : decide ((4096 : Int) < (x.length : Int)) = false := by simp; omega
            have HS : Hid (∀ (j : Nat) e, j < k + 1 → L[j]? = some e → e.length ≤ 4096) := Lib.hid (fun j e hj he => by
              by_cases e1 : j = k
              · subst e1; rw [HX.out] at he; cases he; omega
              · exact HA.out j e (by omega) he)
            clear h4
            go_wp2
            go_roundw
            case rel => exact ⟨k + 1, by omega, by go_num, by trivial, HS⟩
            case measure => simp [RowKit.intOf]; omega
        · obtain rfl : k = L.length := by omega
          have hE : ¬ (∃ e ∈ L, 4096 < e.length) := fun ⟨e, he, h4⟩ => by
            obtain ⟨j, hj, rfl⟩ := List.getElem_of_mem he
            have h5 := HA.out j _ hj (List.getElem?_eq_getElem hj)
            omega
          have H3 : Hid (er = 0) := Lib.hid (by rw [← HER.out, if_neg hE])
          clear hE
          go_wp2
          go_ret
          exact ⟨by rw [H3.out]; rfl, Below.refl _ _⟩

end Go.Proofs.YtlmdpcaikhdenaaGreat
/- Disk: New. -/
namespace Go.Proofs.YtlmdpcaikhdenaaGreat
open Go.RowKit Go.Maps Go.Shelf

/-- a disk without files -/
def DSt.empty (room : Nat) : DSt := ⟨room, [], [], [], [], [], 0⟩


set_option maxRecDepth 100000 in
set_option maxHeartbeats 4000000 in
theorem of_none {cap : Nat} (hc : cap ≤ 1099511627776) (w : World) : Calls Tryz.prog 44 #[.int .i64 (cap : Int), .slice none 0 0] w fun e w' => ∃ p own, e = .returned (.tuple #[.pointer (some ⟨p, 0, none⟩), .int .i64 0]) ∧ DiskAt w' p (DSt.empty cap) own (fun b => w.heap.size ≤ b ∧ b < w'.heap.size ∧ b ∉ own) ∧ (∀ b ∈ own, w.heap.size ≤ b) ∧ Below w.heap.size w w' := by
  have g1 : decide ((cap : Int) < 0) = false := by simp
  have g2 : decide (1099511627776 < (cap : Int)) = false := by simp; omega
  have hmk := fun t w => run_makeMap (P := Tryz.prog) t w
  obtain ⟨w3, hw3⟩ : ∃ w3, ((w.alloc (.map #[] 0)).alloc (.map #[] 0)).alloc (.cells #[.int .i64 (cap : Int), .map (some w.heap.size), .map (some (w.heap.size + 1)), .map none, .slice none 0 0, .slice none 0 0, .int .i64 0] 113) = w3 := ⟨_, rfl⟩
  have hb3 : Below w.heap.size w w3 := by rw [← hw3]; exact ((below_alloc w _).alloc (by simp) _).alloc (by simp; omega) _
  have hz3 : w3.heap.size = w.heap.size + 1 + 1 + 1 := by rw [← hw3]; simp
  have hfm : w3.ownsMap Tryz.prog 3 ptrElem w.heap.size 0 (filesD []) := by rw [← hw3]; exact ((World.ownsMap_made w _ _ _).alloc _).alloc _
  have hnm : w3.ownsMap Tryz.prog 9 (plainElem Tryz.prog 3) (w.heap.size + 1) 0 (nameD []) := by rw [← hw3]; have := (World.ownsMap_made (w.alloc (.map #[] 0)) Tryz.prog 9 (plainElem (H := Unit) Tryz.prog 3)).alloc (.cells #[.int .i64 (cap : Int), .map (some w.heap.size), .map (some (w.heap.size + 1)), .map none, .slice none 0 0, .slice none 0 0, .int .i64 0] 113); rwa [World.size_alloc] at this
  have hcl : w3.heap[w.heap.size + 1 + 1]? = some (.cells #[.int .i64 (cap : Int), .map (some w.heap.size), .map (some (w.heap.size + 1)), .map none, .slice none 0 0, .slice none 0 0, .int .i64 0] 113 (0, 0)) := by rw [← hw3]; have := World.alloc_heap_new ((w.alloc (.map #[] 0)).alloc (.map #[] 0)) (.cells #[.int .i64 (cap : Int), .map (some w.heap.size), .map (some (w.heap.size + 1)), .map none, .slice none 0 0, .slice none 0 0, .int .i64 0] 113); rwa [World.size_alloc, World.size_alloc] at this
  have c2 := cell_of_heap hcl (i := 2) (v := .map (some (w.heap.size + 1))) (by rfl)
  have hcn := cloneN_any hnm
  have hplt := heap_lt hcl
  have HZ := Lib.hid hz3; clear hz3
  go_enter Tryz.func44, Tryz.ntmps44
  go_wp2_with fail
  refine wp_loop_rounds 1 ?_
  rw [rounds_succ]
  go_wp2_with (go_at_call 50; refine hcn.mono ?_; rintro _ w4 ⟨rfl, hm4, hb4⟩; have k3 := cell_of_heap ((hb4.block _ hplt).trans hcl) (i := 3) (v := .map none) (by rfl); have z3 := frozen_of_heap (i := 3) ((hb4.block _ hplt).trans hcl))
  go_ret2
  have hz3 := HZ.out
  have hm4s := hm4.lt
  have hs4 := hb4.size
  have hc5 : Chg (· = w.heap.size + 1 + 1) w4 (w4.setCell ⟨w.heap.size + 1 + 1, 3, none⟩ (.map (some w3.heap.size))) := Chg.set _ rfl
  have hcell5 := heap_set_cells (i := 3) (.map (some w3.heap.size)) ((hb4.block _ hplt).trans hcl)
  have hc35 : Chg (· = w.heap.size + 1 + 1) w3 (w4.setCell ⟨w.heap.size + 1 + 1, 3, none⟩ (.map (some w3.heap.size))) := (Chg.of_below hb4).trans hc5 (fun _ h _ => h)
  have hs5 : (w4.setCell ⟨w.heap.size + 1 + 1, 3, none⟩ (.map (some w3.heap.size))).heap.size = w4.heap.size := by simp [World.setCell]
  have hfm5 := hc35.map hfm (by omega)
  have hnm5 := hc35.map hnm (by omega)
  have hm5 := hc5.map hm4 (by omega)
  have hbf : Below w.heap.size w (w4.setCell ⟨w.heap.size + 1 + 1, 3, none⟩ (.map (some w3.heap.size))) := (bthen hb3 hb4).setCell (p := ⟨w.heap.size + 1 + 1, 3, none⟩) (by show _ ≤ w.heap.size + 1 + 1; omega) _
  generalize w4.setCell ⟨w.heap.size + 1 + 1, 3, none⟩ (.map (some w3.heap.size)) = w5 at *
  refine ⟨_, _, rfl, ⟨w.heap.size, w.heap.size + 1, w3.heap.size, [], .slice none 0 0, .slice none 0 0, [], [], 113, ?_, rfl⟩, ?_, hbf⟩
  · exact {
      cells := by simpa [DSt.empty] using hcell5
      filesM := hfm5
      namesM := hnm5
      sureM := hm5
      count := rfl
      file := fun i b d hb => by simp at hb
      stepsR := World.ownsRow_nil _ _ _ _
      step := fun i v x hv => by simp at hv
      writesR := World.ownsRow_nil _ _ _ _
      count4 := rfl
      write := fun i c x hc => by simp at hc
      apart := by simp [ownL, Value.ownBlock]; omega
      own := fun b hb => ⟨by simp [ownL, Value.ownBlock] at hb; omega, fun h => h.2.2 hb⟩
      shared := fun b hb => hb.2.1
      sureR := ⟨by omega, by omega, fun hm => by simp [ownL, Value.ownBlock] at hm; omega⟩ }
  · intro b hb
    simp [ownL, Value.ownBlock] at hb
    omega

theorem new_any {cap : Nat} (hc : cap ≤ 1099511627776) (w : World) : Calls Tryz.prog 16 #[.int .i64 (cap : Int)] w fun e w' => ∃ p own, e = .returned (.tuple #[.pointer (some ⟨p, 0, none⟩), .int .i64 0]) ∧ DiskAt w' p (DSt.empty cap) own (fun b => w.heap.size ≤ b ∧ b < w'.heap.size ∧ b ∉ own) ∧ (∀ b ∈ own, w.heap.size ≤ b) ∧ Below w.heap.size w w' := by
  have hO := of_none hc w
  go_enter Tryz.func16, Tryz.ntmps16
  go_wp2_with (go_at_call 44; refine hO.mono ?_; rintro _ w1 ⟨p, own, rfl, hD, ho, hb⟩)
  go_ret2
  exact ⟨p, own, rfl, hD, ho, hb⟩

end Go.Proofs.YtlmdpcaikhdenaaGreat
/- Disk: plain: what steps do to names; what a stop lays. No program in sight. -/
namespace Go.Proofs.YtlmdpcaikhdenaaGreat
open Go.RowKit Go.Maps

/-- names that are well made: rising, names all, and files below F -/
structure NamesOk (l : NL) (F : Nat) : Prop where
  rising : Rising l
  each : ∀ p ∈ l, p.2 < F ∧ NameOk p.1

theorem mem_nlDel {l : NL} {k : List UInt8} {p : List UInt8 × Nat} : p ∈ nlDel l k ↔ p ∈ l ∧ p.1 ≠ k := by
  unfold nlDel; rw [List.mem_filter]; simp
theorem mem_nlIns {x y : List UInt8 × Nat} : ∀ {l : NL}, y ∈ nlIns x l ↔ y = x ∨ y ∈ l
  | [] => by simp [nlIns]
  | z :: r => by
    unfold nlIns
    split
    · simp
    · rw [List.mem_cons, mem_nlIns, List.mem_cons]
      constructor
      · rintro (h | h | h)
        · exact .inr (.inl h)
        · exact .inl h
        · exact .inr (.inr h)
      · rintro (h | h | h)
        · exact .inr (.inl h)
        · exact .inl h
        · exact .inr (.inr h)
theorem mem_nlPut {l : NL} {k : List UInt8} {n : Nat} {p : List UInt8 × Nat} : p ∈ nlPut l k n ↔ p = (k, n) ∨ (p ∈ l ∧ p.1 ≠ k) := by
  unfold nlPut; rw [mem_nlIns, mem_nlDel]
theorem rising_del {l : NL} (h : Rising l) (k : List UInt8) : Rising (nlDel l k) := List.Pairwise.filter _ h
theorem before_trans {a b c : List UInt8} (h1 : bytesBefore a b = true) (h2 : bytesBefore b c = true) : bytesBefore a c = true := WideShapes.bytes_trans a b c h1 h2
theorem rising_ins {x : List UInt8 × Nat} : ∀ {l : NL}, Rising l → (∀ p ∈ l, p.1 ≠ x.1) → Rising (nlIns x l)
  | [], _, _ => by simp [nlIns, Rising]
  | z :: r, h, hn => by
    obtain ⟨h1, h2⟩ := List.pairwise_cons.1 h
    unfold nlIns
    split
    · rename_i hb
      refine List.pairwise_cons.2 ⟨fun p hp => ?_, h⟩
      rcases List.mem_cons.1 hp with rfl | hp
      · exact hb
      · exact before_trans hb (h1 p hp)
    · rename_i hb
      have hzx : bytesBefore z.1 x.1 = true := by
        rcases WideAt.bytes_total x.1 z.1 (fun e => hn z List.mem_cons_self e.symm) with h3 | h3
        · exact absurd h3 hb
        · exact h3
      refine List.pairwise_cons.2 ⟨fun p hp => ?_, rising_ins h2 (fun p hp => hn p (List.mem_cons_of_mem _ hp))⟩
      rcases mem_nlIns.1 hp with rfl | hp
      · exact hzx
      · exact h1 p hp
theorem rising_put {l : NL} (h : Rising l) (k : List UInt8) (n : Nat) : Rising (nlPut l k n) := rising_ins (rising_del h k) (fun p hp => (mem_nlDel.1 hp).2)
theorem NamesOk.put {l : NL} {F n : Nat} {k : List UInt8} (h : NamesOk l F) (hk : NameOk k) (hn : n < F) : NamesOk (nlPut l k n) F :=
  ⟨rising_put h.rising k n, fun p hp => by rcases mem_nlPut.1 hp with rfl | ⟨hp, _⟩; exact ⟨hn, hk⟩; exact h.each p hp⟩
theorem NamesOk.del {l : NL} {F : Nat} (h : NamesOk l F) (k : List UInt8) : NamesOk (nlDel l k) F := ⟨rising_del h.rising k, fun p hp => h.each p (mem_nlDel.1 hp).1⟩
theorem nlFind_mem' {l : NL} {k : List UInt8} {n : Nat} (h : nlFind l k = some n) : (k, n) ∈ l := by
  unfold nlFind at h
  obtain ⟨p, hp, rfl⟩ := Option.map_eq_some_iff.1 h
  have h1 := List.mem_of_find?_eq_some hp
  have h2 := List.find?_some hp
  simp at h2
  rw [← h2]; exact h1
theorem NamesOk.step {l : NL} {F : Nat} {x : NStep} (h : NamesOk l F) (hx : StepOk F x) : NamesOk (doStep l x) F := by
  cases x with
  | create k n => exact h.put hx.2 hx.1
  | rename f t =>
    simp only [doStep]
    split
    · rename_i n hf; exact (h.del f).put hx.2 (h.each _ (nlFind_mem' hf)).1
    · exact h
  | remove k => exact h.del k
theorem NamesOk.steps {l : NL} {F : Nat} {xs : List NStep} (h : NamesOk l F) (hx : ∀ x ∈ xs, StepOk F x) : NamesOk (xs.foldl doStep l) F := by
  induction xs generalizing l with
  | nil => exact h
  | cons x r ih => exact ih (h.step (hx x List.mem_cons_self)) (fun y hy => hx y (List.mem_cons_of_mem _ hy))

/-! ### a stop, as the program reckons it -/
/-- the writes that are kept, in order -/
def keptW (s : DSt) (l : NL) (keep : List Bool) (i : Nat) : List Wr := ((s.writes.zipIdx.take i).filter fun p => leadsTo l p.1.file && keep.getD p.2 false).map (·.1)
/-- the place of the last of them that is no cut, looked for from behind -/
def lastW (K : List Wr) : Nat → Option Nat
  | 0 => none
  | k + 1 => if (K[k]?.map (·.cut)).getD false then lastW K k else some k
/-- how much of the i-th kept write is laid -/
def sizeW (last : Option Nat) (torn : Int) (i : Nat) (x : Wr) : Nat := if last = some i ∧ 0 ≤ torn then min x.data.length torn.toNat else x.data.length
/-- the bytes of the files behind the first i kept writes -/
def dataW (s : DSt) (K : List Wr) (last : Option Nat) (torn : Int) : Nat → Nat → List UInt8
  | 0, f => s.lasts f
  | i + 1, f => match K[i]? with
    | some x => if x.file = f then laid (dataW s K last torn i f) x (sizeW last torn i x) else dataW s K last torn i f
    | none => dataW s K last torn i f

end Go.Proofs.YtlmdpcaikhdenaaGreat
