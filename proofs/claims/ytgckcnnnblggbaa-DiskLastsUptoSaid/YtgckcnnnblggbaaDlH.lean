/- Disk: the document's SameFiles. -/
import Derived.Test.YtgckcnnnblggbaaDlG
namespace Go.Proofs.Ytgckcnnnblggbaa
open Go.RowKit Go.Maps

/-- files as they are read: the cells of a slice of files, from its address on -/
def FilesRd (w : World) (a : Option Addr) (L : List (List UInt8 × List UInt8)) : Prop := L ≠ [] → ∃ b off, a = some ⟨b, off, none⟩ ∧ ∀ (i : Nat) d, L[i]? = some d →
  w.cell? ⟨b, off + i * 2, none⟩ = some (sv d.1) ∧ ∃ ua uc, w.cell? ⟨b, off + i * 2 + 1, none⟩ = some (.slice ua d.2.length uc) ∧ RowAt w ua (d.2.map bv)
theorem FilesRd.below {w w' : World} {a : Option Addr} {L : List (List UInt8 × List UInt8)} (h : FilesRd w a L) (hb : Below w.heap.size w w') : FilesRd w' a L := fun hL => by
  obtain ⟨b, off, e, hc⟩ := h hL
  refine ⟨b, off, e, fun i d hd => ?_⟩
  obtain ⟨h1, ua, uc, h2, h3⟩ := hc i d hd
  exact ⟨(hb.cell (p := ⟨b, off + i * 2, none⟩) (cell_lt h1)).trans h1, ua, uc, (hb.cell (p := ⟨b, off + i * 2 + 1, none⟩) (cell_lt h2)).trans h2, h3.below hb⟩
theorem FilesRd.nil (w : World) (a : Option Addr) : FilesRd w a [] := fun h => absurd rfl h
theorem FilesRd.of_at {w : World} {lo bo : Nat} {v : Value} {cs : List (List Value)} {L : List (List UInt8 × List UInt8)} (h : FilesAt w lo bo v cs L) : ∃ a c, v = .slice a L.length c ∧ FilesRd w a L := by
  have hrow := h.row
  rcases hrow.2 with ⟨rfl, hz⟩ | ⟨g, cap, cur, rfl, _, hg, _, _, _, ht⟩
  · refine ⟨none, 0, by rw [hz], fun hL => absurd (List.length_eq_zero_iff.1 hz) hL⟩
  · refine ⟨_, cap, rfl, fun hL => ⟨g, 0, rfl, fun i d hd => ?_⟩⟩
    have hi : i < cs.length := by rw [h.count]; exact (List.getElem?_eq_some_iff.1 hd).1
    obtain ⟨U, hc, hU⟩ := h.file i cs[i] d (by simp) hd
    obtain ⟨ua, uc, rfl, _, _, hr, _⟩ := hU
    have hflat : ∀ (cs : List (List Value)) (i : Nat) (hi : i < cs.length), (∀ c ∈ cs, c.length = 2) → ∀ (j : Nat) u, j < 2 → (cs[i])[j]? = some u → cs.flatten[i * 2 + j]? = some u := by
      intro cs
      induction cs with
      | nil => intro i hi; simp at hi
      | cons c r ih =>
        intro i hi hl j u hj hu
        have hc2 := hl c List.mem_cons_self
        cases i with
        | zero => simp at hu; rw [List.flatten_cons, List.getElem?_append_left (by omega)]; simpa using hu
        | succ i =>
          rw [List.flatten_cons, List.getElem?_append_right (by omega)]
          have := ih i (by simpa using hi) (fun c hc => hl c (List.mem_cons_of_mem _ hc)) j u hj (by simpa using hu)
          rw [show (i + 1) * 2 + j - c.length = i * 2 + j from by omega]
          exact this
    have hl2 : ∀ c ∈ cs, c.length = 2 := fun c hcm => by
      obtain ⟨k, hk, rfl⟩ := List.getElem_of_mem hcm
      obtain ⟨d', hd'⟩ : ∃ d', L[k]? = some d' := ⟨L[k]'(by rw [← h.count]; exact hk), by simp⟩
      obtain ⟨U, e, _⟩ := h.file k cs[k] d' (by simp) hd'
      rw [e]; rfl
    have hcell : ∀ (j : Nat) u, j < L.length * 2 → cs.flatten[j]? = some u → w.cell? ⟨g, j, none⟩ = some u := fun j u hj hu => by
      have : cur.toList[j]? = some u := by rw [← ht, List.getElem?_take] at hu; simpa [hj] using hu
      exact cell_of_heap hg (by simpa using this)
    have hiL : i < L.length := (List.getElem?_eq_some_iff.1 hd).1
    refine ⟨?_, ua, uc, ?_, hr⟩
    · rw [Nat.zero_add]; exact hcell (i * 2) _ (by omega) (hflat cs i hi hl2 0 _ (by omega) (by rw [hc]; rfl))
    · rw [Nat.zero_add]; exact hcell (i * 2 + 1) _ (by omega) (hflat cs i hi hl2 1 _ (by omega) (by rw [hc]; rfl))

set_option maxHeartbeats 2000000 in
theorem SameFiles_any {w : World} {a b : Option Addr} {c d : Nat} {L M : List (List UInt8 × List UInt8)} (h1 : FilesRd w a L) (h2 : FilesRd w b M) (hl : L.length ≤ maxLen) :
    Calls Try.prog 30 #[.slice a L.length c, .slice b M.length d] w fun e w' => e = .returned (.bool (L == M)) ∧ Below w.heap.size w w' := by
  have hmax : maxLen = 9223372036854775807 := rfl
  have hn : ∀ t : Bool, (L == M) = t → Ending.returned (.bool t) = .returned (.bool (L == M)) := fun t h => by rw [h]
  have HN := Lib.hid hn; clear hn
  by_cases hlen : L.length = M.length
  · have i1 : ((L.length : Int) != (M.length : Int)) = false := by simp [hlen]
    have i2 : ((L.length : Int) == (M.length : Int)) = true := by simp [hlen]
    go_enter Try.func30, Try.ntmps30
    go_wp2
    go_loopw [5] (fun i wr => ∃ k : Nat, k ≤ L.length ∧ i = .int .i64 k ∧ Below w.heap.size w wr ∧ Hid (∀ j, j < k → L[j]? = M[j]?)) (fun i _ => L.length - (RowKit.intOf i).toNat)
    case atStart => exact ⟨0, by omega, rfl, Below.refl _ _, fun j hj => by omega⟩
    case round =>
      obtain ⟨k, hk, rfl, hb, HA⟩ := hrel
      by_cases hlt : k < L.length
      · obtain ⟨x, hx⟩ : ∃ x, L[k]? = some x := ⟨L[k]'hlt, by simp⟩
        obtain ⟨y, hy⟩ : ∃ y, M[k]? = some y := ⟨M[k]'(by omega), by simp⟩
        obtain ⟨b1, o1, rfl, c1⟩ := (h1.below hb) (fun e => by rw [e] at hlt; simp at hlt)
        obtain ⟨b2, o2, rfl, c2⟩ := (h2.below hb) (fun e => by
          have h0 : M.length = 0 := by rw [e]; rfl
          omega)
        obtain ⟨n1, ua, uc, u1, r1⟩ := c1 k x hx
        obtain ⟨n2, va, vc, u2, r2⟩ := c2 k y hy
        unfold sv at n1 n2
        have q1 : ∀ q, (convert 28 9 (.slice ua x.2.length uc)).run Try.prog (wr.drewN q) = .ok (.string ⟨x.2.toArray⟩) (wr.drewN q) := fun q => run_conv (P := Try.prog) 28 9 5 Try.underlying28 Try.underlying5 Try.underlying9 (c := uc) (r1.below (below_drewN (Below.refl _ wr) q))
        have q2 : ∀ q, (convert 28 9 (.slice va y.2.length vc)).run Try.prog (wr.drewN q) = .ok (.string ⟨y.2.toArray⟩) (wr.drewN q) := fun q => run_conv (P := Try.prog) 28 9 5 Try.underlying28 Try.underlying5 Try.underlying9 (c := vc) (r2.below (below_drewN (Below.refl _ wr) q))
        have HX := Lib.hid hx; have HY := Lib.hid hy; clear hx hy r1 r2 c1 c2
        have HL := Lib.hid hlen
        have j0 : (k : Int) < (L.length : Int) := by omega
        have j1 : (k : Int) < (M.length : Int) := by omega
        by_cases he : x.1 = y.1
        · have e1 : (x.1 == y.1) = true := by simpa using he
          have e2 : (x.1 != y.1) = false := by simpa using he
          by_cases he2 : x.2 = y.2
          · have e3 : (x.2 == y.2) = true := by simpa using he2
            have e4 : (x.2 != y.2) = false := by simpa using he2
            have HS : Hid (∀ j, j < k + 1 → L[j]? = M[j]?) := Lib.hid (fun j hj => by
              by_cases e : j = k
              · subst e; rw [HX.out, HY.out, Prod.ext he he2]
              · exact HA.out j (by omega))
            clear hlen he he2
            go_wp2
            go_quiet (fail)
            go_wp2
            go_roundw
            case rel => exact ⟨k + 1, by omega, by go_num, below_drewN hb _, HS⟩
            case measure => simp [RowKit.intOf]; omega
          · have e3 : (x.2 == y.2) = false := by simpa using he2
            have e4 : (x.2 != y.2) = true := by simpa using he2
            have HE : Hid (x ≠ y) := Lib.hid (fun e => he2 (by rw [e]))
            clear hlen he he2
            go_wp2
            go_quiet (fail)
            go_wp2
            go_ret
            exact ⟨HN.out _ (list_ne_at HX.out HY.out HE.out), below_drewN hb _⟩
        · have e1 : (x.1 == y.1) = false := by simpa using he
          have e2 : (x.1 != y.1) = true := by simpa using he
          have HE : Hid (x ≠ y) := Lib.hid (fun e => he (by rw [e]))
          clear hlen he
          go_wp2
          go_quiet (fail)
          go_wp2
          go_ret
          exact ⟨HN.out _ (list_ne_at HX.out HY.out HE.out), below_drewN hb _⟩
      · obtain rfl : k = L.length := by omega
        have HL := Lib.hid hlen; clear hlen
        go_wp2
        go_ret
        exact ⟨HN.out _ (list_eq_at HL.out HA.out), hb⟩
  · have i1 : ((L.length : Int) != (M.length : Int)) = true := by simp; omega
    have i2 : ((L.length : Int) == (M.length : Int)) = false := by simp; omega
    have HL := Lib.hid hlen; clear hlen
    go_enter Try.func30, Try.ntmps30
    go_wp2
    go_ret
    exact ⟨HN.out _ (list_ne_len HL.out), Below.refl _ _⟩

end Go.Proofs.Ytgckcnnnblggbaa
