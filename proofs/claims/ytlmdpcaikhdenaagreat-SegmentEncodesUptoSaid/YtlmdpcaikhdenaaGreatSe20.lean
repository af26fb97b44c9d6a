/- Texts of this claim, one behind the other: DlH, SgV, SgW, SgX. -/
import Derived.Test.YtlmdpcaikhdenaaGreatSe16
import Derived.Test.YtlmdpcaikhdenaaGreatSe19
import Derived.Deep.RegionHeld3
set_option linter.unusedSimpArgs false
set_option linter.unusedVariables false
/- Disk: the document's SameFiles. -/
namespace Go.Proofs.YtlmdpcaikhdenaaGreat
open Go.RowKit Go.Maps

/-- files as they are read: the cells of a slice of files, from its address on -/
def FilesRd (w : World) (a : Option Addr) (L : List (List UInt8 × List UInt8)) : Prop := L ≠ [] → ∃ b off, a = some ⟨b, off, none⟩ ∧ ∀ (i : Nat) d, L[i]? = some d →
  w.cell? ⟨b, off + i * 2, none⟩ = some (sv d.1) ∧ ∃ ua uc, w.cell? ⟨b, off + i * 2 + 1, none⟩ = some (.slice ua d.2.length uc) ∧ RowAt w ua (d.2.map bv)
theorem FilesRd.below {w w' : World} {a : Option Addr} {L : List (List UInt8 × List UInt8)} (h : FilesRd w a L) (hb : Below w.heap.size w w') : FilesRd w' a L := fun hL => by
  obtain ⟨b, off, e, hc⟩ := h hL
  refine ⟨b, off, e, fun i d hd => ?_⟩
  obtain ⟨h1, ua, uc, h2, h3⟩ := hc i d hd
  exact ⟨(hb.cell (p := ⟨b, off + i * 2, none⟩) (cell_lt h1)).trans h1, ua, uc, (hb.cell (p := ⟨b, off + i * 2 + 1, none⟩) (cell_lt h2)).trans h2, h3.below hb⟩
theorem FilesRd.nil (w : World) (a : Option Addr) : FilesRd w a [] := fun h => absurd rfl h
theorem FilesRd.of_at {w : World} {lo bo : Nat} {v : Value} {cs : List (List Value)} {L : List (List UInt8 × List UInt8)} (h : FilesAt w lo bo v cs L) : ∃ a c, v = .slice a L.length c ∧ FilesRd w a L := by
  have hrow := h.row
  rcases hrow.2 with ⟨rfl, hz⟩ | ⟨g, cap, cur, rfl, _, hg, _, _, _, ht⟩
  · refine ⟨none, 0, by rw [hz], fun hL => absurd (List.length_eq_zero_iff.1 hz) hL⟩
  · refine ⟨_, cap, rfl, fun hL => ⟨g, 0, rfl, fun i d hd => ?_⟩⟩
    have hi : i < cs.length := by rw [h.count]; exact (List.getElem?_eq_some_iff.1 hd).1
    obtain ⟨U, hc, hU⟩ := h.file i cs[i] d (by simp) hd
    obtain ⟨ua, uc, rfl, _, _, hr, _⟩ := hU
    have hflat : ∀ (cs : List (List Value)) (i : Nat) (hi : i < cs.length), (∀ c ∈ cs, c.length = 2) → ∀ (j : Nat) u, j < 2 → (cs[i])[j]? = some u → cs.flatten[i * 2 + j]? = some u := by
      intro cs
      induction cs with
      | nil => intro i hi; simp at hi
      | cons c r ih =>
        intro i hi hl j u hj hu
        have hc2 := hl c List.mem_cons_self
        cases i with
        | zero => simp at hu; rw [List.flatten_cons, List.getElem?_append_left (by omega)]; simpa using hu
        | succ i =>
          rw [List.flatten_cons, List.getElem?_append_right (by omega)]
          have := ih i (by simpa using hi) (fun c hc => hl c (List.mem_cons_of_mem _ hc)) j u hj (by simpa using hu)
          rw [show (i + 1) * 2 + j - c.length = i * 2 + j from by omega]
          exact this
    have hl2 : ∀ c ∈ cs, c.length = 2 := fun c hcm => by
      obtain ⟨k, hk, rfl⟩ := List.getElem_of_mem hcm
      obtain ⟨d', hd'⟩ : ∃ d', L[k]? = some d' := ⟨L[k]'(by rw [← h.count]; exact hk), by simp⟩
      obtain ⟨U, e, _⟩ := h.file k cs[k] d' (by simp) hd'
      rw [e]; rfl
    have hcell : ∀ (j : Nat) u, j < L.length * 2 → cs.flatten[j]? = some u → w.cell? ⟨g, j, none⟩ = some u := fun j u hj hu => by
      have : cur.toList[j]? = some u := by rw [← ht, List.getElem?_take] at hu; simpa [hj] using hu
      exact cell_of_heap hg (by simpa using this)
    have hiL : i < L.length := (List.getElem?_eq_some_iff.1 hd).1
    refine ⟨?_, ua, uc, ?_, hr⟩
    · rw [Nat.zero_add]; exact hcell (i * 2) _ (by omega) (hflat cs i hi hl2 0 _ (by omega) (by rw [hc]; rfl))
    · rw [Nat.zero_add]; exact hcell (i * 2 + 1) _ (by omega) (hflat cs i hi hl2 1 _ (by omega) (by rw [hc]; rfl))

set_option maxHeartbeats 2000000 in
theorem SameFiles_any {w : World} {a b : Option Addr} {c d : Nat} {L M : List (List UInt8 × List UInt8)} (h1 : FilesRd w a L) (h2 : FilesRd w b M) (hl : L.length ≤ maxLen) :
    Calls Tryz.prog 31 #[.slice a L.length c, .slice b M.length d] w fun e w' => e = .returned (.bool (L == M)) ∧ Below w.heap.size w w' := by
  have hmax : maxLen = 9223372036854775807 := rfl
  have hn : ∀ t : Bool, (L == M) = t → Ending.returned (.bool t) = .returned (.bool (L == M)) := fun t h => by rw [h]
  have HN := Lib.hid hn; clear hn
  by_cases hlen : L.length = M.length
  · have i1 : ((L.length : Int) != (M.length : Int)) = false := by simp [hlen]
    have i2 : ((L.length : Int) == (M.length : Int)) = true := by simp [hlen]
    go_enter Tryz.func31, Tryz.ntmps31
    go_wp2
    go_loopw [5] (fun i wr => ∃ k : Nat, k ≤ L.length ∧ i = .int .i64 k ∧ Below w.heap.size w wr ∧ Hid (∀ j, j < k → L[j]? = M[j]?)) (fun i _ => L.length - (RowKit.intOf i).toNat)
    case atStart => exact ⟨0, by omega, rfl, Below.refl _ _, fun j hj => by omega⟩
    case round =>
      obtain ⟨k, hk, rfl, hb, HA⟩ := hrel
      by_cases hlt : k < L.length
      · obtain ⟨x, hx⟩ : ∃ x, L[k]? = some x := ⟨L[k]'hlt, by simp⟩
        obtain ⟨y, hy⟩ : ∃ y, M[k]? = some y := ⟨M[k]'(by omega), by simp⟩
        obtain ⟨b1, o1, rfl, c1⟩ := (h1.below hb) (fun e => by rw [e] at hlt; simp at hlt)
        obtain ⟨b2, o2, rfl, c2⟩ := (h2.below hb) (fun e => by
          have h0 : M.length = 0 := by rw [e]; rfl
          omega)
        obtain ⟨n1, ua, uc, u1, r1⟩ := c1 k x hx
        obtain ⟨n2, va, vc, u2, r2⟩ := c2 k y hy
        unfold sv at n1 n2
        have q1 : ∀ q, (convert 26 9 (.slice ua x.2.length uc)).run Tryz.prog (wr.drewN q) = .ok (.string ⟨x.2.toArray⟩) (wr.drewN q) := fun q => run_conv (P := Tryz.prog) 26 9 5 Tryz.underlying26 Tryz.underlying5 Tryz.underlying9 (c := uc) (r1.below (below_drewN (Below.refl _ wr) q))
        have q2 : ∀ q, (convert 26 9 (.slice va y.2.length vc)).run Tryz.prog (wr.drewN q) = .ok (.string ⟨y.2.toArray⟩) (wr.drewN q) := fun q => run_conv (P := Tryz.prog) 26 9 5 Tryz.underlying26 Tryz.underlying5 Tryz.underlying9 (c := vc) (r2.below (below_drewN (Below.refl _ wr) q))
        have HX := Lib.hid hx; have HY := Lib.hid hy; clear hx hy r1 r2 c1 c2
        have HL := Lib.hid hlen
        have j0 : (k : Int) < (L.length : Int) := by omega
        have j1 : (k : Int) < (M.length : Int) := by omega
        by_cases he : x.1 = y.1
        · have e1 : (x.1 == y.1) = true := by simpa using he
          have e2 : (x.1 != y.1) = false := by simpa using he
          by_cases he2 : x.2 = y.2
          · have e3 : (x.2 == y.2) = true := by simpa using he2
            have e4 : (x.2 != y.2) = false := by simpa using he2
            have HS : Hid (∀ j, j < k + 1 → L[j]? = M[j]?) := Lib.hid (fun j hj => by
              by_cases e : j = k
              · subst e; rw [HX.out, HY.out, Prod.ext he he2]
              · exact HA.out j (by omega))
            clear hlen he he2
            go_wp2
            go_quiet (fail)
            go_wp2
            go_roundw
            case rel => exact ⟨k + 1, by omega, by go_num, below_drewN hb _, HS⟩
            case measure => simp [RowKit.intOf]; omega
          · have e3 : (x.2 == y.2) = false := by simpa using he2
            have e4 : (x.2 != y.2) = true := by simpa using he2
            have HE : Hid (x ≠ y) := Lib.hid (fun e => he2 (by rw [e]))
            clear hlen he he2
            go_wp2
            go_quiet (fail)
            go_wp2
            go_ret
            exact ⟨HN.out _ (list_ne_at HX.out HY.out HE.out), below_drewN hb _⟩
        · have e1 : (x.1 == y.1) = false := by simpa using he
          have e2 : (x.1 != y.1) = true := by simpa using he
          have HE : Hid (x ≠ y) := Lib.hid (fun e => he (by rw [e]))
          clear hlen he
          go_wp2
          go_quiet (fail)
          go_wp2
          go_ret
          exact ⟨HN.out _ (list_ne_at HX.out HY.out HE.out), below_drewN hb _⟩
      · obtain rfl : k = L.length := by omega
        have HL := Lib.hid hlen; clear hlen
        go_wp2
        go_ret
        exact ⟨HN.out _ (list_eq_at HL.out HA.out), hb⟩
  · have i1 : ((L.length : Int) != (M.length : Int)) = true := by simp; omega
    have i2 : ((L.length : Int) == (M.length : Int)) = false := by simp; omega
    have HL := Lib.hid hlen; clear hlen
    go_enter Tryz.func31, Tryz.ntmps31
    go_wp2
    go_ret
    exact ⟨HN.out _ (list_ne_len HL.out), Below.refl _ _⟩

end Go.Proofs.YtlmdpcaikhdenaaGreat
/- Segment: entries as they are read; the references' Same; num. -/
namespace Go.Proofs.YtlmdpcaikhdenaaGreat
open Go.RowKit Go.Maps

/-- entries as they are read: the cells of a slice of slices, from its address on -/
def EntsAt (w : World) (a : Option Addr) (L : List (List UInt8)) : Prop := L ≠ [] → ∃ b off, a = some ⟨b, off, none⟩ ∧ ∀ (i : Nat) d, L[i]? = some d →
  ∃ ua uc, w.cell? ⟨b, off + i, none⟩ = some (.slice ua d.length uc) ∧ RowAt w ua (d.map bv) ∧ d.length ≤ uc ∧ (ua = none → uc = 0)
theorem EntsAt.below {w w' : World} {a : Option Addr} {L : List (List UInt8)} (h : EntsAt w a L) (hb : Below w.heap.size w w') : EntsAt w' a L := fun hL => by
  obtain ⟨b, off, e, hc⟩ := h hL
  refine ⟨b, off, e, fun i d hd => ?_⟩
  obtain ⟨ua, uc, h2, h3, h4⟩ := hc i d hd
  exact ⟨ua, uc, (hb.cell (p := ⟨b, off + i, none⟩) (cell_lt h2)).trans h2, h3.below hb, h4⟩
theorem EntsAt.nil (w : World) (a : Option Addr) : EntsAt w a [] := fun h => absurd rfl h
theorem EntIn.at_ {R : Nat → Prop} {w : World} {v : Value} {L : List (List UInt8)} (h : EntIn R w v L) : ∃ a c, v = .slice a L.length c ∧ EntsAt w a L := by
  obtain ⟨vs, h1, h2, h3, h4⟩ := h
  obtain ⟨a, c, rfl, hr, _⟩ := RowAt.of_owns h1
  refine ⟨a, c, rfl, fun hL => ?_⟩
  obtain ⟨b, off, rfl, hc⟩ := hr (fun e => hL (by have h3' := h3; rw [e] at h3'; exact List.length_eq_zero_iff.1 h3'.symm))
  refine ⟨b, off, rfl, fun i d hd => ?_⟩
  have hi : i < vs.length := by rw [h3]; exact (List.getElem?_eq_some_iff.1 hd).1
  have hv : vs[i]? = some vs[i] := by simp
  obtain ⟨ua, uc, e, hle, hnl, hrow, _⟩ := h4 i _ d hv hd
  rw [e] at hv
  exact ⟨ua, uc, hc i _ hv, hrow, hle, hnl⟩
theorem num17_any (v : Value) (w : World) : Calls Tryz.prog 11 #[v] w fun e w' => e = .returned v ∧ w = w' := by
  go_enter Tryz.func11, Tryz.ntmps11
  go_wp2
  go_ret
  exact ⟨rfl, rfl⟩
set_option maxHeartbeats 2000000 in
theorem rsame_any {w : World} {a b : Option Addr} {c d : Nat} {L M : List (List UInt8)} (h1 : EntsAt w a L) (h2 : EntsAt w b M) (hl : L.length ≤ maxLen) :
    Calls Tryz.prog 15 #[.slice a L.length c, .slice b M.length d] w fun e w' => e = .returned (.bool (L == M)) ∧ Below w.heap.size w w' := by
  have hmax : maxLen = 9223372036854775807 := rfl
  have hn : ∀ t : Bool, (L == M) = t → Ending.returned (.bool t) = .returned (.bool (L == M)) := fun t h => by rw [h]
  have HN := Lib.hid hn; clear hn
  by_cases hlen : L.length = M.length
  · have i1 : ((L.length : Int) != (M.length : Int)) = false := by simp [hlen]
    have i2 : ((L.length : Int) == (M.length : Int)) = true := by simp [hlen]
    go_enter Tryz.func15, Tryz.ntmps15
    go_wp2
    go_loopw [5] (fun i wr => ∃ k : Nat, k ≤ L.length ∧ i = .int .i64 k ∧ Below w.heap.size w wr ∧ Hid (∀ j, j < k → L[j]? = M[j]?)) (fun i _ => L.length - (RowKit.intOf i).toNat)
    case atStart => exact ⟨0, by omega, rfl, Below.refl _ _, fun j hj => by omega⟩
    case round =>
      obtain ⟨k, hk, rfl, hb, HA⟩ := hrel
      by_cases hlt : k < L.length
      · obtain ⟨x, hx⟩ : ∃ x, L[k]? = some x := ⟨L[k]'hlt, by simp⟩
        obtain ⟨y, hy⟩ : ∃ y, M[k]? = some y := ⟨M[k]'(by omega), by simp⟩
        obtain ⟨b1, o1, rfl, c1⟩ := (h1.below hb) (fun e => by rw [e] at hlt; simp at hlt)
        obtain ⟨b2, o2, rfl, c2⟩ := (h2.below hb) (fun e => by
          have h0 : M.length = 0 := by rw [e]; rfl
          omega)
        obtain ⟨ua, uc, u1, r1, _⟩ := c1 k x hx
        obtain ⟨va, vc, u2, r2, _⟩ := c2 k y hy
        have q1 : ∀ q, (convert 26 9 (.slice ua x.length uc)).run Tryz.prog (wr.drewN q) = .ok (.string ⟨x.toArray⟩) (wr.drewN q) := fun q => run_conv (P := Tryz.prog) 26 9 5 Tryz.underlying26 Tryz.underlying5 Tryz.underlying9 (c := uc) (r1.below (below_drewN (Below.refl _ wr) q))
        have q2 : ∀ q, (convert 26 9 (.slice va y.length vc)).run Tryz.prog (wr.drewN q) = .ok (.string ⟨y.toArray⟩) (wr.drewN q) := fun q => run_conv (P := Tryz.prog) 26 9 5 Tryz.underlying26 Tryz.underlying5 Tryz.underlying9 (c := vc) (r2.below (below_drewN (Below.refl _ wr) q))
        have HX := Lib.hid hx; have HY := Lib.hid hy; clear hx hy r1 r2 c1 c2
        have HL := Lib.hid hlen
        have j0 : (k : Int) < (L.length : Int) := by omega
        have j1 : (k : Int) < (M.length : Int) := by omega
        by_cases he2 : x = y
        · have e3 : (x == y) = true := by simpa using he2
          have e4 : (x != y) = false := by simpa using he2
          have HS : Hid (∀ j, j < k + 1 → L[j]? = M[j]?) := Lib.hid (fun j hj => by
            by_cases e : j = k
            · subst e; rw [HX.out, HY.out, he2]
            · exact HA.out j (by omega))
          clear hlen he2
          go_wp2
          go_quiet (fail)
          go_wp2
          go_roundw
          case rel => exact ⟨k + 1, by omega, by go_num, below_drewN hb _, HS⟩
          case measure => simp [RowKit.intOf]; omega
        · have e3 : (x == y) = false := by simpa using he2
          have e4 : (x != y) = true := by simpa using he2
          have HE : Hid (x ≠ y) := Lib.hid he2
          clear hlen he2
          go_wp2
          go_quiet (fail)
          go_wp2
          go_ret
          exact ⟨HN.out _ (list_ne_at HX.out HY.out HE.out), below_drewN hb _⟩
      · obtain rfl : k = L.length := by omega
        have HL := Lib.hid hlen; clear hlen
        go_wp2
        go_ret
        exact ⟨HN.out _ (list_eq_at HL.out HA.out), hb⟩
  · have i1 : ((L.length : Int) != (M.length : Int)) = true := by simp; omega
    have i2 : ((L.length : Int) == (M.length : Int)) = false := by simp; omega
    have HL := Lib.hid hlen; clear hlen
    go_enter Tryz.func15, Tryz.ntmps15
    go_wp2
    go_ret
    exact ⟨HN.out _ (list_ne_len HL.out), Below.refl _ _⟩

end Go.Proofs.YtlmdpcaikhdenaaGreat
/- Segment: the reference's Same of two segments. -/
namespace Go.Proofs.YtlmdpcaikhdenaaGreat
open Go.RowKit Go.Maps

set_option maxHeartbeats 4000000 in
theorem rsegSame_any {w : World} {a b : Option Addr} {c d : Nat} {L M : List (List UInt8)} {f1 g1 z1 y1 f2 g2 z2 y2 : Int} (h1 : EntsAt w a L) (h2 : EntsAt w b M) (hl : L.length ≤ maxLen) :
    Calls Tryz.prog 22 #[.agg #[.int .i64 f1, .slice a L.length c, .int .i64 g1, .int .i64 z1, .int .i64 y1], .agg #[.int .i64 f2, .slice b M.length d, .int .i64 g2, .int .i64 z2, .int .i64 y2]] w fun e w' => e = .returned (.bool (f1 == f2 && g1 == g2 && z1 == z2 && y1 == y2 && L == M)) ∧ Below w.heap.size w w' := by
  obtain ⟨w1, hw1⟩ : ∃ w1, (w.alloc (.cells #[.int .i64 f1, .slice a L.length c, .int .i64 g1, .int .i64 z1, .int .i64 y1] 42)).alloc (.cells #[.int .i64 f2, .slice b M.length d, .int .i64 g2, .int .i64 z2, .int .i64 y2] 42) = w1 := ⟨_, rfl⟩
  have hb1 : Below w.heap.size w w1 := by rw [← hw1]; exact (below_alloc w _).alloc (by simp) _
  have hx0 : w1.heap[w.heap.size]? = some (.cells #[.int .i64 f1, .slice a L.length c, .int .i64 g1, .int .i64 z1, .int .i64 y1] 42 (0, 0)) := by rw [← hw1]; exact (Below.heap_alloc _ _ _ (by simp)).trans (World.alloc_heap_new w _)
  have hx1 : w1.heap[w.heap.size + 1]? = some (.cells #[.int .i64 f2, .slice b M.length d, .int .i64 g2, .int .i64 z2, .int .i64 y2] 42 (0, 0)) := by rw [← hw1]; have := World.alloc_heap_new (w.alloc (.cells #[.int .i64 f1, .slice a L.length c, .int .i64 g1, .int .i64 z1, .int .i64 y1] 42)) (.cells #[.int .i64 f2, .slice b M.length d, .int .i64 g2, .int .i64 z2, .int .i64 y2] 42); rwa [World.size_alloc] at this
  have p0 := cell_of_heap hx0 (i := 0) (v := .int .i64 f1) (by rfl)
  have p1 := cell_of_heap hx0 (i := 1) (v := .slice a L.length c) (by rfl)
  have p2 := cell_of_heap hx0 (i := 2) (v := .int .i64 g1) (by rfl)
  have p3 := cell_of_heap hx0 (i := 3) (v := .int .i64 z1) (by rfl)
  have p4 := cell_of_heap hx0 (i := 4) (v := .int .i64 y1) (by rfl)
  have q0 := cell_of_heap hx1 (i := 0) (v := .int .i64 f2) (by rfl)
  have q1 := cell_of_heap hx1 (i := 1) (v := .slice b M.length d) (by rfl)
  have q2 := cell_of_heap hx1 (i := 2) (v := .int .i64 g2) (by rfl)
  have q3 := cell_of_heap hx1 (i := 3) (v := .int .i64 z2) (by rfl)
  have q4 := cell_of_heap hx1 (i := 4) (v := .int .i64 y2) (by rfl)
  have hS : ∀ W, Below w.heap.size w W → Calls Tryz.prog 15 #[.slice a L.length c, .slice b M.length d] W fun e w' => e = .returned (.bool (L == M)) ∧ Below W.heap.size W w' := fun W hb => rsame_any (h1.below hb) (h2.below hb) hl
  have hS1 := hS w1 hb1
  have HS := Lib.hid hS
  have HW := Lib.hid hw1
  have HB := Lib.hid hb1
  clear hw1 hx0 hx1 hb1 hS h1 h2
  by_cases e1 : f1 = f2
  · have i1 : (f1 == f2) = true := by simpa using e1
    by_cases e2 : g1 = g2
    · have i2 : (g1 == g2) = true := by simpa using e2
      by_cases e3 : z1 = z2
      · have i3 : (z1 == z2) = true := by simpa using e3
        by_cases e4 : y1 = y2
        · have i4 : (y1 == y2) = true := by simpa using e4
          clear e1 e2 e3 e4
          go_enter Tryz.func22, Tryz.ntmps22
          go_wp2_with (first | rw [HW.out] | (go_at_call 15; refine hS1.mono ?_; rintro _ w2 ⟨rfl, hb2⟩))
          go_ret
          exact ⟨by rw [i1, i2, i3, i4]; simp, HB.out.trans (hb2.mono HB.out.size)⟩
        · have i4 : (y1 == y2) = false := by simpa using e4
          clear e1 e2 e3 e4
          go_enter Tryz.func22, Tryz.ntmps22
          go_wp2_with (rw [HW.out])
          go_ret
          exact ⟨by rw [i1, i2, i3, i4]; simp, HB.out⟩
      · have i3 : (z1 == z2) = false := by simpa using e3
        clear e1 e2 e3
        go_enter Tryz.func22, Tryz.ntmps22
        go_wp2_with (rw [HW.out])
        go_ret
        exact ⟨by rw [i1, i2, i3]; simp, HB.out⟩
    · have i2 : (g1 == g2) = false := by simpa using e2
      clear e1 e2
      go_enter Tryz.func22, Tryz.ntmps22
      go_wp2_with (rw [HW.out])
      go_ret
      exact ⟨by rw [i1, i2]; simp, HB.out⟩
  · have i1 : (f1 == f2) = false := by simpa using e1
    clear e1
    go_enter Tryz.func22, Tryz.ntmps22
    go_wp2_with (rw [HW.out])
    go_ret
    exact ⟨by rw [i1]; simp, HB.out⟩

end Go.Proofs.YtlmdpcaikhdenaaGreat
/- Segment: spoilt, which writes over the bytes of entries. (printed by gen/spoilt17.py) -/
namespace Go.Proofs.YtlmdpcaikhdenaaGreat
open Go.RowKit Go.Maps

/-- a store into a block that a row of bytes, or another one, lies in -/
theorem ownsRow_put {w : World} {e : TypeId} {v : Value} {n g k : Nat} {xs : List Value} (h : w.ownsRow 0 e 1 v n xs) (u : Value) : ∃ ys, (w.setCell ⟨g, k, none⟩ u).ownsRow 0 e 1 v n ys ∧ ∀ y ∈ ys, y ∈ xs ∨ y = u := by
  by_cases hv : v.ownBlock = some g
  · rcases h.2 with ⟨rfl, _⟩ | ⟨g', cap, cur, rfl, hb, hh, h1, h2, h3, h4⟩
    · cases hv
    · obtain rfl : g' = g := by simpa [Value.ownBlock] using hv
      refine ⟨(cur.setIfInBounds k u).toList.take (n * 1), ⟨?_, .inr ⟨g', cap, cur.setIfInBounds k u, rfl, hb, ?_, h1, h2, by simpa using h3, rfl⟩⟩, fun y hy => ?_⟩
      · have := h.1; rw [← h4] at this; simpa using this
      · simp [World.setCell, Array.getElem?_modify, hh]
      · rw [Array.toList_setIfInBounds, List.take_set] at hy
        rw [← h4]
        exact List.mem_or_eq_of_mem_set hy
  · exact ⟨xs, ownsRow_setCell_other (a := ⟨g, k, none⟩) h hv u, fun y hy => .inl hy⟩
/-- the bytes of entries that may be written -/
def BytesOk (w : World) (vs : List Value) : Prop := ∀ x ∈ vs, ∃ n ys, w.ownsRow 0 5 1 x n ys ∧ n ≤ maxLen ∧ ∀ y ∈ ys, ∃ u : UInt8, y = bv u
theorem BytesOk.put {w : World} {vs : List Value} (h : BytesOk w vs) (g k : Nat) (u : UInt8) : BytesOk (w.setCell ⟨g, k, none⟩ (bv u)) vs := fun x hx => by
  obtain ⟨n, ys, h1, h2, h3⟩ := h x hx
  obtain ⟨zs, k1, k2⟩ := ownsRow_put (g := g) (k := k) h1 (bv u)
  exact ⟨n, zs, k1, h2, fun y hy => (k2 y hy).elim (h3 y) (fun e => ⟨u, e⟩)⟩
theorem BytesOk.drew {w : World} {vs : List Value} (h : BytesOk w vs) : BytesOk w.drew vs := h
theorem xor8 (u : UInt8) : ∃ u' : UInt8, bits .xor .u8 (u.toNat : Int) 90 = (u'.toNat : Int) := by
  have h : bits .xor .u8 (u.toNat : Int) 90 = ((u.toNat ^^^ 90 : Nat) : Int) := by
    have := u.toNat_lt
    revert this
    generalize u.toNat = n
    intro h
    have : ∀ n : Fin 256, bits .xor .u8 (n.val : Int) 90 = ((n.val ^^^ 90 : Nat) : Int) := by decide +kernel
    exact this ⟨n, h⟩
  refine ⟨u ^^^ 90, ?_⟩
  rw [h]
  rfl
set_option maxRecDepth 100000 in
set_option maxHeartbeats 8000000 in
theorem spoilt_any {w : World} {v : Value} {m : Nat} {vs : List Value} (h1 : w.ownsRow 0 26 1 v m vs) (h2 : BytesOk w vs) :
    Calls Tryz.prog 13 #[v] w fun e w' => e = .returned (.tuple #[]) ∧ Chg (fun b => ∃ x ∈ vs, x.ownBlock = some b) w w' := by
  have hmax : maxLen = 9223372036854775807 := rfl
  obtain ⟨a, c, rfl, hrow, hvl⟩ := RowAt.of_owns h1
  have hm : m ≤ maxLen := by
    rcases h1.2 with ⟨_, hz⟩ | ⟨g, cap, cur, _, _, _, k1, k2, _⟩ <;> omega
  -- the row's own block holds no bytes
  have hown : ∀ b, (Value.slice a m c).ownBlock = some b → ¬ ∃ x ∈ vs, x.ownBlock = some b := fun b hb hx => by
    obtain ⟨x, hx, hxb⟩ := hx
    obtain ⟨n, ys, k1, _⟩ := h2 x hx
    obtain ⟨cs, fr, e1⟩ := ownsRow_ty h1 hb
    obtain ⟨cs', fr', e2⟩ := ownsRow_ty k1 hxb
    rw [e1] at e2
    simp only [Option.some.injEq, Obj.cells.injEq] at e2
    exact absurd e2.2.1 (by decide)
  have HO := Lib.hid hown
  have H1 := Lib.hid h1
  have HM := Lib.hid hm
  clear hown
  go_enter Tryz.func13, Tryz.ntmps13
  go_wp2
  go_loopw [2] (fun i wr => ∃ k : Nat, k ≤ m ∧ i = .int .i64 k ∧ Chg (fun b => ∃ x ∈ vs, x.ownBlock = some b) w wr ∧ Hid (BytesOk wr vs)) (fun i _ => m - (RowKit.intOf i).toNat)
  case atStart => exact ⟨0, by omega, rfl, Chg.refl _ _, h2⟩
  case round =>
    obtain ⟨k, hk, rfl, hc, HB⟩ := hrel
    by_cases hlt : k < m
    · have hkv : k < vs.length := by rw [hvl]; omega
      obtain ⟨x, hx⟩ : ∃ x, vs[k] = x := ⟨_, rfl⟩
      have hxm : x ∈ vs := by rw [← hx]; exact List.getElem_mem _
      have hvk : vs[k]? = some x := by rw [← hx]; simp
      obtain ⟨n, ys, hxo, hn, hys⟩ := HB.out x hxm
      obtain ⟨xa, xc, rfl, _, _⟩ := RowAt.of_owns hxo
      have j0 : (k : Int) < (m : Int) := by omega
      have HX := Lib.hid hxm
      have HVK := Lib.hid hvk
      have HN := Lib.hid hn
      obtain ⟨b, hb0, hcb⟩ : ∃ b, a = some ⟨b, 0, none⟩ ∧ ∀ W, Chg (fun b => ∃ x ∈ vs, x.ownBlock = some b) w W → W.cell? ⟨b, k, none⟩ = some (.slice xa n xc) := by
        rcases h1.2 with ⟨e, hz⟩ | ⟨g, cap, cur, e, _⟩
        · omega
        · cases e
          refine ⟨g, rfl, fun W hW => ?_⟩
          obtain ⟨a', c', e', hr', _⟩ := RowAt.of_owns (hW.row h1 (fun b hb => HO.out b hb))
          cases e'
          obtain ⟨b', off', e2, hcc⟩ := hr' (fun e => by rw [e] at hkv; simp at hkv)
          cases e2
          have := hcc k _ hvk
          rwa [Nat.zero_add] at this
      subst hb0
      have HCB := Lib.hid hcb
      have HC := Lib.hid hc
      have c0 := hcb wr hc
      clear hvk hxm hn hcb hc hxo hys h1 h2 hrow hx
      go_wp2
      go_loopw [3] (fun i wz => ∃ q : Nat, q ≤ n ∧ i = .int .i64 q ∧ Chg (fun b => ∃ x ∈ vs, x.ownBlock = some b) w wz ∧ Hid (BytesOk wz vs)) (fun i _ => n - (RowKit.intOf i).toNat)
      case atStart => exact ⟨0, by omega, rfl, HC.out, HB.out⟩
      case round =>
        clear c0
        obtain ⟨q, hq, rfl, hcz, HBZ⟩ := hrel
        have c0 := HCB.out _ hcz
        by_cases hqn : q < n
        · have j1 : (q : Int) < (n : Int) := by omega
          obtain ⟨gx, u, hgx, hcu, hfu⟩ : ∃ gx, ∃ u : UInt8, xa = some ⟨gx, 0, none⟩ ∧ wr.cell? ⟨gx, q, none⟩ = some (.int .u8 (u.toNat : Int)) ∧ wr.frozen? ⟨gx, q, none⟩ = false := by
            obtain ⟨n', ys', hxo, _, hys⟩ := HBZ.out _ HX.out
            rcases hxo.2 with ⟨e, _⟩ | ⟨g, cap, cur, e, r0, r1, r2, r3, r4, r5⟩
            · cases e; omega
            · cases e
              have hql : q < cur.size := by omega
              have hm : (cur.toList)[q]? = some cur[q] := by simp [hql]
              have hy : ys'[q]? = some cur[q] := by rw [← r5, List.getElem?_take, if_pos (by omega)]; exact hm
              obtain ⟨u, hu⟩ := hys _ (List.mem_of_getElem? hy)
              refine ⟨g, u, rfl, ?_, by simp [World.frozen?, r1]⟩
              rw [show Value.int .u8 (u.toNat : Int) = bv u from rfl, ← hu]
              simp [World.cell?, r1, hql]
          subst hgx
          obtain ⟨u', hu'⟩ := xor8 u
          have hbo : (Value.slice (some ⟨gx, 0, none⟩) n xc).ownBlock = some gx := rfl
          have HCZ := Lib.hid hcz
          clear hcz
          go_upto_region 6 with fail
          refine wp_region_held_drew (S := fun w' => w'.cell? ⟨b, k, none⟩ = some (.slice (some ⟨gx, 0, none⟩) n xc)) (by kernel_rfl) (c0) (fun hHeld => ?_)
          refine wpAnyH_take (i := 0) (v := ?_) rfl (by kernel_rfl) (by kernel_rfl) (by kernel_rfl) (fun _ _ _ h => h) (Or.inl ⟨by rfl, ?_⟩) hHeld ?_
          rotate_left
          · intro w hSw; (try dsimp only at hSw); go_simp
            all_goals (with_reducible rfl)
          (try simp only [Act.put, List.getElem_toArray, List.getElem_cons_succ, List.getElem_cons_zero, List.setIfInBounds_toArray, List.set_cons_zero, List.set_cons_succ])
          refine wpAnyH_take (i := 1) (v := ?_) rfl (by kernel_rfl) (by kernel_rfl) (by kernel_rfl) (fun _ _ _ h => h) (Or.inl ⟨by rfl, ?_⟩) hHeld ?_
          rotate_left
          · intro w hSw; (try dsimp only at hSw); go_simp
            all_goals (with_reducible rfl)
          (try simp only [Act.put, List.getElem_toArray, List.getElem_cons_succ, List.getElem_cons_zero, List.setIfInBounds_toArray, List.set_cons_zero, List.set_cons_succ])
          refine wpAnyH_take (i := 2) (v := ?_) rfl (by kernel_rfl) (by kernel_rfl) (by kernel_rfl) (fun _ _ _ h => h) (Or.inl ⟨by rfl, ?_⟩) hHeld ?_
          rotate_left
          · intro w hSw; (try dsimp only at hSw); go_simp
            all_goals (with_reducible rfl)
          (try simp only [Act.put, List.getElem_toArray, List.getElem_cons_succ, List.getElem_cons_zero, List.setIfInBounds_toArray, List.set_cons_zero, List.set_cons_succ])
          refine wpAnyH_take (i := 3) (v := ?_) rfl (by kernel_rfl) (by kernel_rfl) (by kernel_rfl) (fun _ _ _ h => h) (Or.inl ⟨by rfl, ?_⟩) hHeld ?_
          rotate_left
          · intro w hSw; (try dsimp only at hSw); go_simp
            all_goals (with_reducible rfl)
          (try simp only [Act.put, List.getElem_toArray, List.getElem_cons_succ, List.getElem_cons_zero, List.setIfInBounds_toArray, List.set_cons_zero, List.set_cons_succ])
          refine wpAnyH_take (i := 4) (v := ?_) rfl (by kernel_rfl) (by kernel_rfl) (by kernel_rfl) (fun _ _ _ h => h) (Or.inl ⟨by rfl, ?_⟩) hHeld ?_
          rotate_left
          · intro w hSw; (try dsimp only at hSw); go_simp
            all_goals (with_reducible rfl)
          (try simp only [Act.put, List.getElem_toArray, List.getElem_cons_succ, List.getElem_cons_zero, List.setIfInBounds_toArray, List.set_cons_zero, List.set_cons_succ])
          refine wpAnyH_take (i := 5) (v := ?_) rfl (by kernel_rfl) (by kernel_rfl) (by kernel_rfl) (fun _ _ _ h => h) (Or.inl ⟨by rfl, ?_⟩) hHeld ?_
          rotate_left
          · intro w hSw; (try dsimp only at hSw); go_simp
            all_goals (with_reducible rfl)
          (try simp only [Act.put, List.getElem_toArray, List.getElem_cons_succ, List.getElem_cons_zero, List.setIfInBounds_toArray, List.set_cons_zero, List.set_cons_succ])
          refine wpAnyH_take (i := 6) (v := ?_) rfl (by kernel_rfl) (by kernel_rfl) (by kernel_rfl) (fun _ _ _ h => h) (Or.inl ⟨by rfl, ?_⟩) hHeld ?_
          rotate_left
          · intro w hSw; (try dsimp only at hSw); go_simp
            all_goals (with_reducible rfl)
          (try simp only [Act.put, List.getElem_toArray, List.getElem_cons_succ, List.getElem_cons_zero, List.setIfInBounds_toArray, List.set_cons_zero, List.set_cons_succ])
          refine wpAnyH_take (i := 7) (v := ?_) rfl (by kernel_rfl) (by kernel_rfl) (by kernel_rfl) (fun _ _ _ h => h) (Or.inl ⟨by rfl, ?_⟩) hHeld ?_
          rotate_left
          · intro w hSw; (try dsimp only at hSw); go_simp
            all_goals (with_reducible rfl)
          (try simp only [Act.put, List.getElem_toArray, List.getElem_cons_succ, List.getElem_cons_zero, List.setIfInBounds_toArray, List.set_cons_zero, List.set_cons_succ])
          refine wpAnyH_take (i := 8) (v := ?_) rfl (by kernel_rfl) (by kernel_rfl) (by kernel_rfl) (fun _ _ _ h => h) (Or.inl ⟨by rfl, ?_⟩) hHeld ?_
          rotate_left
          · intro w hSw; (try dsimp only at hSw); go_simp
            all_goals (with_reducible rfl)
          (try simp only [Act.put, List.getElem_toArray, List.getElem_cons_succ, List.getElem_cons_zero, List.setIfInBounds_toArray, List.set_cons_zero, List.set_cons_succ])
          refine wpAnyH_take (i := 9) (v := ?_) rfl (by kernel_rfl) (by kernel_rfl) (by kernel_rfl) (fun _ _ _ h => h) (Or.inl ⟨by rfl, ?_⟩) hHeld ?_
          rotate_left
          · intro w hSw; (try dsimp only at hSw); go_simp
            all_goals (with_reducible rfl)
          (try simp only [Act.put, List.getElem_toArray, List.getElem_cons_succ, List.getElem_cons_zero, List.setIfInBounds_toArray, List.set_cons_zero, List.set_cons_succ])
          refine wpAnyH_take (i := 10) (v := ?_) rfl (by kernel_rfl) (by kernel_rfl) (by kernel_rfl) (fun _ _ _ h => h) (Or.inl ⟨by rfl, ?_⟩) hHeld ?_
          rotate_left
          · intro w hSw; (try dsimp only at hSw); go_simp
            all_goals (with_reducible rfl)
          (try simp only [Act.put, List.getElem_toArray, List.getElem_cons_succ, List.getElem_cons_zero, List.setIfInBounds_toArray, List.set_cons_zero, List.set_cons_succ])
          refine wpAnyH_ready (rs := [11]) (by kernel_rfl) (by simp) ?_
          refine (AllReadyH.cons rfl (fun K hK => ?_) (AllReadyH.nil))
          go_simp
          refine hK.out _ _ (c0) (fun hHeld => ?_)
          clear hK K
          (try simp only [Act.put, List.getElem_toArray, List.getElem_cons_succ, List.getElem_cons_zero, List.setIfInBounds_toArray, List.set_cons_zero, List.set_cons_succ])
          refine wpAnyH_take (i := 12) (v := ?_) rfl (by kernel_rfl) (by kernel_rfl) (by kernel_rfl) (fun _ _ _ h => h) (Or.inl ⟨by rfl, ?_⟩) hHeld ?_
          rotate_left
          · intro w hSw; (try dsimp only at hSw); go_simp
            all_goals (with_reducible rfl)
          (try simp only [Act.put, List.getElem_toArray, List.getElem_cons_succ, List.getElem_cons_zero, List.setIfInBounds_toArray, List.set_cons_zero, List.set_cons_succ])
          refine wpAnyH_take (i := 13) (v := ?_) rfl (by kernel_rfl) (by kernel_rfl) (by kernel_rfl) (fun _ _ _ h => h) (Or.inl ⟨by rfl, ?_⟩) hHeld ?_
          rotate_left
          · intro w hSw; (try dsimp only at hSw); go_simp
            all_goals (with_reducible rfl)
          (try simp only [Act.put, List.getElem_toArray, List.getElem_cons_succ, List.getElem_cons_zero, List.setIfInBounds_toArray, List.set_cons_zero, List.set_cons_succ])
          refine wpAnyH_ready (rs := [14]) (by kernel_rfl) (by simp) ?_
          refine (AllReadyH.cons rfl (fun K hK => ?_) (AllReadyH.nil))
          go_simp
          obtain ⟨w2, hw2⟩ : ∃ w2, (wr.setCell ⟨gx, q, none⟩ (.int .u8 (u'.toNat : Int))).drew = w2 := ⟨_, rfl⟩
          have hc2 : Chg (fun b => ∃ x ∈ vs, x.ownBlock = some b) w w2 := (by
            rw [← hw2]
            exact (HCZ.out.trans (Chg.set (O := (· = gx)) _ rfl) (fun b e _ => by subst e; exact ⟨_, HX.out, rfl⟩)).drew)
          have HB2 : Hid (BytesOk w2 vs) := (by rw [← hw2]; exact (HBZ.out.put gx q u').drew)
          have c2 := HCB.out _ hc2
          rw [hw2]
          clear hw2 c0 hcu hfu
          refine hK.out _ _ (c2) (fun hHeld => ?_)
          clear hK K
          (try simp only [Act.put, List.getElem_toArray, List.getElem_cons_succ, List.getElem_cons_zero, List.setIfInBounds_toArray, List.set_cons_zero, List.set_cons_succ])
          refine wpAnyH_done (by kernel_rfl) ?_ _
          clear hHeld
          have hn9 := HN.out
          go_wp2
          go_roundw
          case rel => exact ⟨q + 1, by omega, by go_num, hc2, HB2⟩
          case measure => simp [RowKit.intOf]; omega
        · obtain rfl : q = n := by omega
          have j1 : ¬ (q : Int) < (q : Int) := by omega
          go_wp2
          go_roundw
          case rel => exact ⟨k + 1, by omega, by go_num, hcz, HBZ⟩
          case measure => simp [RowKit.intOf]; omega
    · obtain rfl : k = m := by omega
      have j1 : ¬ (k : Int) < (k : Int) := by omega
      go_wp2
      exact bodyPost_end (results_none rfl _ _ _) rfl ⟨rfl, hc⟩

end Go.Proofs.YtlmdpcaikhdenaaGreat
