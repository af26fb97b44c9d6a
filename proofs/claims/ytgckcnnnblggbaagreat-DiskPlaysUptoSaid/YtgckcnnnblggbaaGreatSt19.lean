/- Texts of this claim, one behind the other: DlH, DlM. -/
import Derived.Test.YtgckcnnnblggbaaGreatSt14
import Derived.Test.YtgckcnnnblggbaaGreatSt18
import Derived.BigRegion
set_option linter.unusedSimpArgs false
set_option linter.unusedVariables false
/- Disk: the document's SameFiles. -/
namespace Go.Proofs.YtgckcnnnblggbaaGreat
open Go.RowKit Go.Maps

/-- files as they are read: the cells of a slice of files, from its address on -/
def FilesRd (w : World) (a : Option Addr) (L : List (List UInt8 × List UInt8)) : Prop := L ≠ [] → ∃ b off, a = some ⟨b, off, none⟩ ∧ ∀ (i : Nat) d, L[i]? = some d →
  w.cell? ⟨b, off + i * 2, none⟩ = some (sv d.1) ∧ ∃ ua uc, w.cell? ⟨b, off + i * 2 + 1, none⟩ = some (.slice ua d.2.length uc) ∧ RowAt w ua (d.2.map bv)
theorem FilesRd.below {w w' : World} {a : Option Addr} {L : List (List UInt8 × List UInt8)} (h : FilesRd w a L) (hb : Below w.heap.size w w') : FilesRd w' a L := fun hL => by
  obtain ⟨b, off, e, hc⟩ := h hL
  refine ⟨b, off, e, fun i d hd => ?_⟩
  obtain ⟨h1, ua, uc, h2, h3⟩ := hc i d hd
  exact ⟨(hb.cell (p := ⟨b, off + i * 2, none⟩) (cell_lt h1)).trans h1, ua, uc, (hb.cell (p := ⟨b, off + i * 2 + 1, none⟩) (cell_lt h2)).trans h2, h3.below hb⟩
theorem FilesRd.nil (w : World) (a : Option Addr) : FilesRd w a [] := fun h => absurd rfl h
theorem FilesRd.of_at {w : World} {lo bo : Nat} {v : Value} {cs : List (List Value)} {L : List (List UInt8 × List UInt8)} (h : FilesAt w lo bo v cs L) : ∃ a c, v = .slice a L.length c ∧ FilesRd w a L := by
  have hrow := h.row
  rcases hrow.2 with ⟨rfl, hz⟩ | ⟨g, cap, cur, rfl, _, hg, _, _, _, ht⟩
  · refine ⟨none, 0, by rw [hz], fun hL => absurd (List.length_eq_zero_iff.1 hz) hL⟩
  · refine ⟨_, cap, rfl, fun hL => ⟨g, 0, rfl, fun i d hd => ?_⟩⟩
    have hi : i < cs.length := by rw [h.count]; exact (List.getElem?_eq_some_iff.1 hd).1
    obtain ⟨U, hc, hU⟩ := h.file i cs[i] d (by simp) hd
    obtain ⟨ua, uc, rfl, _, _, hr, _⟩ := hU
    have hflat : ∀ (cs : List (List Value)) (i : Nat) (hi : i < cs.length), (∀ c ∈ cs, c.length = 2) → ∀ (j : Nat) u, j < 2 → (cs[i])[j]? = some u → cs.flatten[i * 2 + j]? = some u := by
      intro cs
      induction cs with
      | nil => intro i hi; simp at hi
      | cons c r ih =>
        intro i hi hl j u hj hu
        have hc2 := hl c List.mem_cons_self
        cases i with
        | zero => simp at hu; rw [List.flatten_cons, List.getElem?_append_left (by omega)]; simpa using hu
        | succ i =>
          rw [List.flatten_cons, List.getElem?_append_right (by omega)]
          have := ih i (by simpa using hi) (fun c hc => hl c (List.mem_cons_of_mem _ hc)) j u hj (by simpa using hu)
          rw [show (i + 1) * 2 + j - c.length = i * 2 + j from by omega]
          exact this
    have hl2 : ∀ c ∈ cs, c.length = 2 := fun c hcm => by
      obtain ⟨k, hk, rfl⟩ := List.getElem_of_mem hcm
      obtain ⟨d', hd'⟩ : ∃ d', L[k]? = some d' := ⟨L[k]'(by rw [← h.count]; exact hk), by simp⟩
      obtain ⟨U, e, _⟩ := h.file k cs[k] d' (by simp) hd'
      rw [e]; rfl
    have hcell : ∀ (j : Nat) u, j < L.length * 2 → cs.flatten[j]? = some u → w.cell? ⟨g, j, none⟩ = some u := fun j u hj hu => by
      have : cur.toList[j]? = some u := by rw [← ht, List.getElem?_take] at hu; simpa [hj] using hu
      exact cell_of_heap hg (by simpa using this)
    have hiL : i < L.length := (List.getElem?_eq_some_iff.1 hd).1
    refine ⟨?_, ua, uc, ?_, hr⟩
    · rw [Nat.zero_add]; exact hcell (i * 2) _ (by omega) (hflat cs i hi hl2 0 _ (by omega) (by rw [hc]; rfl))
    · rw [Nat.zero_add]; exact hcell (i * 2 + 1) _ (by omega) (hflat cs i hi hl2 1 _ (by omega) (by rw [hc]; rfl))

set_option maxHeartbeats 2000000 in
theorem SameFiles_any {w : World} {a b : Option Addr} {c d : Nat} {L M : List (List UInt8 × List UInt8)} (h1 : FilesRd w a L) (h2 : FilesRd w b M) (hl : L.length ≤ maxLen) :
    Calls Tryz.prog 13 #[.slice a L.length c, .slice b M.length d] w fun e w' => e = .returned (.bool (L == M)) ∧ Below w.heap.size w w' := by
  have hmax : maxLen = 9223372036854775807 := rfl
  have hn : ∀ t : Bool, (L == M) = t → Ending.returned (.bool t) = .returned (.bool (L == M)) := fun t h => by rw [h]
  have HN := Lib.hid hn; clear hn
  by_cases hlen : L.length = M.length
  · have i1 : ((L.length : Int) != (M.length : Int)) = false := by simp [hlen]
    have i2 : ((L.length : Int) == (M.length : Int)) = true := by simp [hlen]
    go_enter Tryz.func13, Tryz.ntmps13
    go_wp2
    go_loopw [5] (fun i wr => ∃ k : Nat, k ≤ L.length ∧ i = .int .i64 k ∧ Below w.heap.size w wr ∧ Hid (∀ j, j < k → L[j]? = M[j]?)) (fun i _ => L.length - (RowKit.intOf i).toNat)
    case atStart => exact ⟨0, by omega, rfl, Below.refl _ _, fun j hj => by omega⟩
    case round =>
      obtain ⟨k, hk, rfl, hb, HA⟩ := hrel
      by_cases hlt : k < L.length
      · obtain ⟨x, hx⟩ : ∃ x, L[k]? = some x := ⟨L[k]'hlt, by simp⟩
        obtain ⟨y, hy⟩ : ∃ y, M[k]? = some y := ⟨M[k]'(by omega), by simp⟩
        obtain ⟨b1, o1, rfl, c1⟩ := (h1.below hb) (fun e => by rw [e] at hlt; simp at hlt)
        obtain ⟨b2, o2, rfl, c2⟩ := (h2.below hb) (fun e => by
          have h0 : M.length = 0 := by rw [e]; rfl
          omega)
        obtain ⟨n1, ua, uc, u1, r1⟩ := c1 k x hx
        obtain ⟨n2, va, vc, u2, r2⟩ := c2 k y hy
        unfold sv at n1 n2
        have q1 : ∀ q, (convert 36 9 (.slice ua x.2.length uc)).run Tryz.prog (wr.drewN q) = .ok (.string ⟨x.2.toArray⟩) (wr.drewN q) := fun q => run_conv (P := Tryz.prog) 36 9 5 Tryz.underlying36 Tryz.underlying5 Tryz.underlying9 (c := uc) (r1.below (below_drewN (Below.refl _ wr) q))
        have q2 : ∀ q, (convert 36 9 (.slice va y.2.length vc)).run Tryz.prog (wr.drewN q) = .ok (.string ⟨y.2.toArray⟩) (wr.drewN q) := fun q => run_conv (P := Tryz.prog) 36 9 5 Tryz.underlying36 Tryz.underlying5 Tryz.underlying9 (c := vc) (r2.below (below_drewN (Below.refl _ wr) q))
        have HX := Lib.hid hx; have HY := Lib.hid hy; clear hx hy r1 r2 c1 c2
        have HL := Lib.hid hlen
        have j0 : (k : Int) < (L.length : Int) := by omega
        have j1 : (k : Int) < (M.length : Int) := by omega
        by_cases he : x.1 = y.1
        · have e1 : (x.1 == y.1) = true := by simpa using he
          have e2 : (x.1 != y.1) = false := by simpa using he
          by_cases he2 : x.2 = y.2
          · have e3 : (x.2 == y.2) = true := by simpa using he2
            have e4 : (x.2 != y.2) = false := by simpa using he2
            have HS : Hid (∀ j, j < k + 1 → L[j]? = M[j]?) := Lib.hid (fun j hj => by
              by_cases e : j = k
              · subst e; rw [HX.out, HY.out, Prod.ext he he2]
              · exact HA.out j (by omega))
            clear hlen he he2
            go_wp2
            go_quiet (fail)
            go_wp2
            go_roundw
            case rel => exact ⟨k + 1, by omega, by go_num, below_drewN hb _, HS⟩
            case measure => simp [RowKit.intOf]; omega
          · have e3 : (x.2 == y.2) = false := by simpa using he2
            have e4 : (x.2 != y.2) = true := by simpa using he2
            have HE : Hid (x ≠ y) := Lib.hid (fun e => he2 (by rw [e]))
            clear hlen he he2
            go_wp2
            go_quiet (fail)
            go_wp2
            go_ret
            exact ⟨HN.out _ (list_ne_at HX.out HY.out HE.out), below_drewN hb _⟩
        · have e1 : (x.1 == y.1) = false := by simpa using he
          have e2 : (x.1 != y.1) = true := by simpa using he
          have HE : Hid (x ≠ y) := Lib.hid (fun e => he (by rw [e]))
          clear hlen he
          go_wp2
          go_quiet (fail)
          go_wp2
          go_ret
          exact ⟨HN.out _ (list_ne_at HX.out HY.out HE.out), below_drewN hb _⟩
      · obtain rfl : k = L.length := by omega
        have HL := Lib.hid hlen; clear hlen
        go_wp2
        go_ret
        exact ⟨HN.out _ (list_eq_at HL.out HA.out), hb⟩
  · have i1 : ((L.length : Int) != (M.length : Int)) = true := by simp; omega
    have i2 : ((L.length : Int) == (M.length : Int)) = false := by simp; omega
    have HL := Lib.hid hlen; clear hlen
    go_enter Tryz.func13, Tryz.ntmps13
    go_wp2
    go_ret
    exact ⟨HN.out _ (list_ne_len HL.out), Below.refl _ _⟩

end Go.Proofs.YtgckcnnnblggbaaGreat
/- Disk: Of, a new disk of files. -/
namespace Go.Proofs.YtgckcnnnblggbaaGreat
open Go.RowKit Go.Maps Go.Shelf

/-- files that are handed in -/
def FilesArg (w : World) (a : Option Addr) (L : List (List UInt8 × List UInt8)) : Prop := L ≠ [] → ∃ b off, a = some ⟨b, off, none⟩ ∧ ∀ (i : Nat) d, L[i]? = some d →
  w.cell? ⟨b, off + i * 2, none⟩ = some (sv d.1) ∧ ∃ ua uc, w.cell? ⟨b, off + i * 2 + 1, none⟩ = some (.slice ua d.2.length uc) ∧ (ua = none → uc = 0) ∧ RowAt w ua (d.2.map bv)
theorem FilesArg.below {w w' : World} {a : Option Addr} {L : List (List UInt8 × List UInt8)} (h : FilesArg w a L) (hb : Below w.heap.size w w') : FilesArg w' a L := fun hL => by
  obtain ⟨b, off, e, hc⟩ := h hL
  refine ⟨b, off, e, fun i d hd => ?_⟩
  obtain ⟨h1, ua, uc, h2, h3, h4⟩ := hc i d hd
  exact ⟨(hb.cell (p := ⟨b, off + i * 2, none⟩) (cell_lt h1)).trans h1, ua, uc, (hb.cell (p := ⟨b, off + i * 2 + 1, none⟩) (cell_lt h2)).trans h2, h3, h4.below hb⟩
theorem FilesArg.rd {w : World} {a : Option Addr} {L : List (List UInt8 × List UInt8)} (h : FilesArg w a L) : FilesRd w a L := fun hL => by
  obtain ⟨b, off, e, hc⟩ := h hL
  refine ⟨b, off, e, fun i d hd => ?_⟩
  obtain ⟨h1, ua, uc, h2, h3, h4⟩ := hc i d hd
  exact ⟨h1, ua, uc, h2, h4⟩

theorem less_eq : ∀ a b : List UInt8, Op.bytesLess a b = bytesBefore a b
  | [], [] => rfl
  | [], _ :: _ => rfl
  | _ :: _, [] => rfl
  | a :: r, b :: s => by simp only [Op.bytesLess, bytesBefore, less_eq r s]

/-- names and numbers of files, in their order -/
def ofNames (l : List (List UInt8 × List UInt8)) : NL := l.zipIdx.map fun p => (p.1.1, p.2)
theorem ofNames_append (l : List (List UInt8 × List UInt8)) (x : List UInt8 × List UInt8) : ofNames (l ++ [x]) = ofNames l ++ [(x.1, l.length)] := by
  unfold ofNames
  rw [List.zipIdx_append, List.map_append]; simp
theorem ofNames_len (l : List (List UInt8 × List UInt8)) : (ofNames l).length = l.length := by simp [ofNames]
/-- may these files be handed in, as far as their names go? -/
def NamesGood (l : List (List UInt8 × List UInt8)) : Prop := l.Pairwise (fun p q => bytesBefore p.1 q.1 = true) ∧ ∀ p ∈ l, NameOk p.1
theorem NamesGood.nil : NamesGood [] := ⟨List.Pairwise.nil, fun p hp => by cases hp⟩
theorem NamesGood.push {l : List (List UInt8 × List UInt8)} {x y : List UInt8 × List UInt8} (h : NamesGood l) (hl : l.getLast? = some y) (hb : bytesBefore y.1 x.1 = true) (hx : NameOk x.1) : NamesGood (l ++ [x]) := by
  obtain ⟨h1, h2⟩ := h
  refine ⟨?_, fun p hp => ?_⟩
  · rw [List.pairwise_append]
    refine ⟨h1, List.pairwise_singleton _ _, fun a ha b hb' => ?_⟩
    simp at hb'
    subst hb'
    obtain ⟨r, rfl⟩ := List.getLast?_eq_some_iff.1 hl
    rcases List.mem_append.1 ha with ha | ha
    · exact before_trans ((List.pairwise_append.1 h1).2.2 a ha y (by simp)) hb
    · simp at ha; subst ha; exact hb
  · rcases List.mem_append.1 hp with hp | hp
    · exact h2 p hp
    · simp at hp; subst hp; exact hx
theorem NamesGood.one {x : List UInt8 × List UInt8} (hx : NameOk x.1) : NamesGood [x] := ⟨List.pairwise_singleton _ _, fun p hp => by simp at hp; subst hp; exact hx⟩
theorem NamesGood.take {l : List (List UInt8 × List UInt8)} (h : NamesGood l) (k : Nat) : NamesGood (l.take k) := ⟨h.1.sublist (List.take_sublist _ _), fun p hp => h.2 p (List.mem_of_mem_take hp)⟩
theorem ofNames_next {l : List (List UInt8 × List UInt8)} {k : Nat} {x : List UInt8 × List UInt8} (hx : l[k]? = some x) (hg : NamesGood (l.take (k + 1))) : nlPut (ofNames (l.take k)) x.1 k = ofNames (l.take (k + 1)) := by
  obtain ⟨hk, hx'⟩ := List.getElem?_eq_some_iff.1 hx
  have ht := List.take_succ_eq_append_getElem hk
  rw [hx'] at ht
  rw [ht, ofNames_append, List.length_take, Nat.min_eq_left (by omega)]
  refine nlPut_end fun p hp => ?_
  obtain ⟨_, q, hq, e⟩ := ofNames_mem hp
  rw [← e]
  rw [ht] at hg
  exact (List.pairwise_append.1 hg.1).2.2 q hq x (by simp)

/-- the new disk's maps behind k files -/
def OfAt (w w0 : World) (l : List (List UInt8 × List UInt8)) (mf mn po k : Nat) (wr : World) : Prop :=
  ∃ fb : List Nat, w0.heap.size ≤ wr.heap.size ∧ Below w.heap.size w wr ∧ Chg (fun b => b = mf ∨ b = mn) w0 wr ∧ wr.ownsMap Tryz.prog 3 ptrElem mf fb.length (filesD fb) ∧ fb.length = k ∧
    wr.ownsMap Tryz.prog 9 (plainElem Tryz.prog 3) mn k (nameD (ofNames (l.take k))) ∧ (∀ (i : Nat) b q, fb[i]? = some b → l[i]? = some q → FileIn wr (fun b => w0.heap.size ≤ b ∧ b < wr.heap.size ∧ b ∉ fb) b (q.2, q.2)) ∧ (∀ b ∈ fb, w0.heap.size ≤ b ∧ b < wr.heap.size) ∧ fb.Nodup
theorem OfAt.step {w w0 wr : World} {l : List (List UInt8 × List UInt8)} {mf mn po k : Nat} (h : OfAt w w0 l mf mn po k wr) {x : List UInt8 × List UInt8} (hx : l[k]? = some x) (hg : NamesGood (l.take (k + 1))) (hk : k < 8388608) (hne : mf ≠ mn) (hww : w.heap.size ≤ w0.heap.size) (hmf : w.heap.size ≤ mf) (hmn : w.heap.size ≤ mn)
    (hmf0 : mf < w0.heap.size) (hmn0 : mn < w0.heap.size) (hx64 : x.1.length ≤ maxLen)
    {w1 : World} (hb1 : Below wr.heap.size wr w1) {u : Value} (hu : BytesIn w1 (NewIn wr w1) u x.2) (t : TypeId) :
    ∃ w2 w3, (Instr.mapUpdate 68 (.map (some mf)) (.int .i64 (k : Int)) (.pointer (some ⟨w1.heap.size, 0, none⟩))).run Tryz.prog (w1.alloc (.cells #[u, u] t)) = .ok () w2 ∧
      (Instr.mapUpdate 70 (.map (some mn)) (.string ⟨x.1.toArray⟩) (.int .i64 (k : Int))).run Tryz.prog w2.drew = .ok () w3 ∧ Chg (fun b => b = mf ∨ b = mn) w1 w2 ∧ OfAt w w0 l mf mn po (k + 1) w3 := by
  have hmax : maxLen = 9223372036854775807 := rfl
  obtain ⟨fb, a1, a2, a3, a4, a5, a6, a7, a8, a9⟩ := h
  have hcA : Chg (fun b => b = mf ∨ b = mn) wr w1 := Chg.of_below hb1
  have hcB : Chg (fun b => b = mf ∨ b = mn) w1 (w1.alloc (.cells #[u, u] t)) := Chg.alloc _ _ _
  have hs1 := hcA.size
  have hmf2 : (w1.alloc (.cells #[u, u] t)).ownsMap Tryz.prog 3 ptrElem mf fb.length (filesD fb) := (Chg.alloc (fun _ => False) w1 (.cells #[u, u] t)).map ((Chg.of_below (O := fun _ => False) hb1).map a4 (fun h => h)) (fun h => h)
  obtain ⟨w2, hr2, hm2, ht2⟩ := hmf2.store (int_keyed Tryz.underlying3) Tryz.underlying68 (by omega) (key := .int .i64 (k : Int)) (val := .pointer (some ⟨w1.heap.size, 0, none⟩)) (keyOf_int_mk Tryz.underlying3 (wf_i64 (by omega) (by omega))) (ptrElem_mk _)
  rw [← a5, filesD_put] at hm2
  have hcC : Chg (fun b => b = mf ∨ b = mn) (w1.alloc (.cells #[u, u] t)) w2 := Chg.turned ht2 (.inl rfl)
  have hmn2 : w2.ownsMap Tryz.prog 9 (plainElem Tryz.prog 3) mn k (nameD (ofNames (l.take k))) := (Chg.turned (O := (· = mf)) ht2 rfl).map ((Chg.alloc (fun _ => False) w1 (.cells #[u, u] t)).map ((Chg.of_below (O := fun _ => False) hb1).map a6 (fun h => h)) (fun h => h)) (fun e => hne e.symm)
  have hmn2d : w2.drew.ownsMap Tryz.prog 9 (plainElem Tryz.prog 3) mn k (nameD (ofNames (l.take k))) := (Chg.refl (fun _ => False) w2).drew.map hmn2 (fun h => h)
  obtain ⟨w3, hr3, hm3, ht3⟩ := hmn2d.store (string_keyed Tryz.underlying9) Tryz.underlying70 (by omega) (key := .string ⟨x.1.toArray⟩) (val := .int .i64 (k : Int)) (key_str hx64) (elem_int (by omega))
  rw [nameD_put, ofNames_next hx hg] at hm3
  have hcD : Chg (fun b => b = mf ∨ b = mn) w2 w3 := (Chg.refl (fun b => b = mf ∨ b = mn) w2).drew.trans (Chg.turned ht3 (.inr rfl)) (fun _ h _ => h)
  have hc12 : Chg (fun b => b = mf ∨ b = mn) w1 w2 := hcB.trans hcC (fun _ h _ => h)
  have hc13 : Chg (fun b => b = mf ∨ b = mn) w1 w3 := hc12.trans hcD (fun _ h _ => h)
  have hcr3 : Chg (fun b => b = mf ∨ b = mn) wr w3 := hcA.trans hc13 (fun _ h _ => h)
  have hc03 : Chg (fun b => b = mf ∨ b = mn) w0 w3 := a3.trans hcr3 (fun _ h _ => h)
  have hs2 : w1.heap.size < w2.heap.size := by
    have h1 := hcC.size
    have h2 : (w1.alloc (.cells #[u, u] t)).heap.size = w1.heap.size + 1 := World.size_alloc _ _
    omega
  have hs3 := hcD.size
  refine ⟨w2, w3, hr2, hr3, hc12, fb ++ [w1.heap.size], Nat.le_trans a1 hcr3.size, ⟨hc03.os.trans ?_, hc03.tape.trans ?_, hc03.output.trans ?_, by have := a2.size; omega, fun y hy => ?_⟩, hc03, ?_, by simp [a5], ?_, fun i b q hb hq => ?_, fun b hb => ?_, ?_⟩
  · exact (a3.os.symm.trans a2.os)
  · exact (a3.tape.symm.trans a2.tape)
  · exact (a3.output.symm.trans a2.output)
  · exact (hcr3.block y (by have := a2.size; omega) (by omega)).trans (a2.block y hy)
  · rw [List.length_append]
    exact (Chg.turned (O := (· = mn)) ht3 rfl).map ((Chg.refl (fun _ => False) w2).drew.map hm2 (fun h => h)) hne
  · exact hm3
  · by_cases hi : i < fb.length
    · rw [List.getElem?_append_left hi] at hb
      have h8 := a8 b (List.mem_of_getElem? hb)
      refine (a7 i b q hb hq).kept hcr3 (fun c hc => by omega) (fun c hc => ⟨hc.1, by omega, fun hm => ?_⟩) (by omega)
      rcases List.mem_append.1 hm with hm | hm
      · exact hc.2.2 hm
      · simp at hm; omega
    · obtain ⟨hi1, _⟩ := List.getElem?_eq_some_iff.1 hb
      simp at hi1
      obtain rfl : i = fb.length := by omega
      simp at hb
      subst hb
      rw [a5, hx] at hq
      obtain rfl := Option.some.inj hq
      have hbk : (w1.alloc (.cells #[u, u] t)).heap[w1.heap.size]? = some (.cells #[u, u] t (0, 0)) := World.alloc_heap_new w1 _
      have hub : BytesIn w3 (fun b => w0.heap.size ≤ b ∧ b < w3.heap.size ∧ b ∉ fb ++ [w1.heap.size]) u x.2 := hu.kept hc13 (fun c hc => by have := hc.1; omega) (fun c hc => ⟨by have := hc.1; omega, by have := hc.2; omega, fun hm => by
        have h1 := hc.1; have h2 := hc.2
        rcases List.mem_append.1 hm with hm | hm
        · have := a8 c hm; omega
        · simp at hm; omega⟩)
      exact ⟨t, u, u, hcD.obj (hcC.obj hbk (by omega)) (by omega), hub, hub⟩
  · rcases List.mem_append.1 hb with hb | hb
    · have := a8 b hb; omega
    · simp at hb; omega
  · rw [List.nodup_append]
    refine ⟨a9, by simp, fun a ha b hb => ?_⟩
    simp at hb
    have := a8 a ha
    omega

theorem OfAt.done {w w3 w12 w13 : World} {l : List (List UInt8 × List UInt8)} {mf mn po cap : Nat} {e : TypeId}
    (hcl : w3.heap[po]? = some (.cells #[.int .i64 (cap : Int), .map (some mf), .map (some mn), .map none, .slice none 0 0, .slice none 0 0, .int .i64 0] e (0, 0))) (h : OfAt w w3 l mf mn po l.length w12)
    (hm13 : w13.ownsMap Tryz.prog 9 (plainElem Tryz.prog 3) w12.heap.size l.length (nameD (ofNames l))) (hb13 : Below w12.heap.size w12 w13) (hmf : w.heap.size ≤ mf) (hmn : w.heap.size ≤ mn) (hpo : w.heap.size ≤ po) (hmf0 : mf < w3.heap.size) (hmn0 : mn < w3.heap.size) (hne : mf ≠ mn) (hpf : po ≠ mf) (hpn : po ≠ mn) :
    ∃ own, DiskAt (w13.setCell ⟨po, 3, none⟩ (.map (some w12.heap.size))) po (DSt.ofFiles cap l) own (fun b => w.heap.size ≤ b ∧ b < (w13.setCell ⟨po, 3, none⟩ (.map (some w12.heap.size))).heap.size ∧ b ∉ own) ∧ (∀ b ∈ own, w.heap.size ≤ b) ∧ Below w.heap.size w (w13.setCell ⟨po, 3, none⟩ (.map (some w12.heap.size))) := by
  obtain ⟨fb, a1, a2, a3, a4, a5, a6, a7, a8, a9⟩ := h
  rw [List.take_length] at a6
  have hplt := heap_lt hcl
  have hs3 := hb13.size
  have hm13l := hm13.lt
  have hcells13 := (hb13.block po (by omega)).trans (a3.obj hcl (by omega))
  have hcell := heap_set_cells (i := 3) (.map (some w12.heap.size)) hcells13
  have hc4 : Chg (fun b => b = po) w13 (w13.setCell ⟨po, 3, none⟩ (.map (some w12.heap.size))) := Chg.set _ rfl
  have hs4 : (w13.setCell ⟨po, 3, none⟩ (.map (some w12.heap.size))).heap.size = w13.heap.size := by simp [World.setCell]
  have hbf : Below w.heap.size w (w13.setCell ⟨po, 3, none⟩ (.map (some w12.heap.size))) := (a2.trans (hb13.mono a2.size)).setCell (p := ⟨po, 3, none⟩) hpo _
  generalize w13.setCell ⟨po, 3, none⟩ (.map (some w12.heap.size)) = w14 at *
  have hc34 : Chg (fun b => b = po) w12 w14 := (Chg.of_below (O := fun b => b = po) hb13).trans hc4 (fun _ h _ => h)
  have hws := hb13.size
  have hbw := a2.size
  have hmem : ∀ b, b ∈ ownL po mf mn (.slice none 0 0) (.slice none 0 0) fb → b = po ∨ b = mf ∨ b = mn ∨ b ∈ fb := fun b hb => by simpa [ownL, Value.ownBlock] using hb
  have hgE : ∀ b ∈ ownL po mf mn (.slice none 0 0) (.slice none 0 0) fb, w.heap.size ≤ b ∧ b < w14.heap.size := fun b hb => by
    rcases hmem b hb with rfl | rfl | rfl | h3
    · omega
    · omega
    · omega
    · have := a8 b h3; have := hb13.size; omega
  have hw3s : w.heap.size ≤ w3.heap.size := by omega
  have hnames : ∀ l : List (List UInt8 × List UInt8), (l.zipIdx.map fun p => (p.1.1, p.2)) = ofNames l := fun _ => rfl
  refine ⟨_, ⟨mf, mn, w12.heap.size, fb, .slice none 0 0, .slice none 0 0, [], [], e, ?_, rfl⟩, fun b hb => (hgE b hb).1, hbf⟩
  exact {
    cells := by simpa [DSt.ofFiles] using hcell
    filesM := hc34.map a4 (by omega)
    namesM := by
      have := hc34.map a6 (by omega)
      show w14.ownsMap _ _ _ mn (ofNames l).length (nameD (ofNames l))
      rw [ofNames_len]; exact this
    sureM := by
      have := hc4.map hm13 (by omega)
      show w14.ownsMap _ _ _ _ (ofNames l).length (nameD (ofNames l))
      rw [ofNames_len]; exact this
    count := by simpa [DSt.ofFiles] using a5
    file := fun i b d hb hd => by
      simp only [DSt.ofFiles, List.getElem?_map] at hd
      obtain ⟨q, hq, rfl⟩ := Option.map_eq_some_iff.1 hd
      have h8 := a8 b (List.mem_of_getElem? hb)
      refine (a7 i b q hb hq).kept hc34 (fun c hc => by omega) (fun c hc => ⟨by omega, by omega, fun hm => ?_⟩) (by omega)
      rcases hmem c hm with rfl | rfl | rfl | h3
      · omega
      · omega
      · omega
      · exact hc.2.2 h3
    stepsR := World.ownsRow_nil _ _ _ _
    step := fun i v x hv => by simp at hv
    writesR := World.ownsRow_nil _ _ _ _
    count4 := rfl
    write := fun i c x hc => by simp at hc
    apart := by
      have h8 : ∀ b ∈ fb, b ≠ po ∧ b ≠ mf ∧ b ≠ mn := fun b hb => by have := a8 b hb; omega
      simp only [ownL, Value.ownBlock, List.nodup_cons, List.mem_cons, List.mem_append, Option.toList_none, List.nil_append]
      grind
    own := fun b hb => ⟨(hgE b hb).2, fun h => h.2.2 hb⟩
    shared := fun b hb => hb.2.1
    sureR := ⟨by omega, by omega, fun hm => by
      rcases hmem _ hm with h3 | h3 | h3 | h3
      · omega
      · omega
      · omega
      · have := a8 _ h3; omega⟩ }

end Go.Proofs.YtgckcnnnblggbaaGreat
