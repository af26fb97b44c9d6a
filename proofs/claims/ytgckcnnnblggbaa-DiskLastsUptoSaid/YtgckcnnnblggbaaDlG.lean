/- Disk: the law's and the document's small functions: num, Same, SameTexts, SameFiles. -/
import Derived.Test.YtgckcnnnblggbaaDkT
import Derived.BigQuiet
namespace Go.Proofs.Ytgckcnnnblggbaa
open Go.RowKit Go.Maps

/-- string(b), whatever the address of an empty one -/
theorem run_conv {P : Program} {w : World} (src dst e : TypeId) (hs : P.underlying src = some (.slice e)) (he : P.underlying e = some (.int .u8)) (hd : P.underlying dst = some .string)
    {a : Option Addr} {c : Nat} {l : List UInt8} (h : RowAt w a (l.map bv)) : (convert src dst (.slice a l.length c)).run P w = Result.ok (.string ⟨l.toArray⟩) w := by
  by_cases hl : l = []
  · subst hl
    rw [List.length_nil, run_convert_bytes_string w src dst e _ 0 c hs he hd]
    cases a <;> simp [Conv.bytesToString, loadCells]
    all_goals rfl
  · obtain ⟨b, off, rfl, hc⟩ := h (by simpa using hl)
    have hx := run_convert_bytes_arg (P := P) w src e hs he b off l.length c (l.map fun y => (y.toNat : Int)) (by simp) (fun i hi => by
      have := hc i (bv l[i]) (by simp [hi])
      rw [this]
      simp [bv, List.getD_eq_getElem?_getD, hi]) dst hd
    rw [hx]
    congr 2
    apply ByteArray.ext
    apply Array.toList_inj.1
    simp only [strOfNums, List.map_map]
    have : (fun n : Int => UInt8.ofNat n.toNat) ∘ (fun y : UInt8 => (y.toNat : Int)) = id := by funext y; simp
    rw [this, List.map_id]
theorem num_any (v : Value) (w : World) : Calls Try.prog 11 #[v] w fun e w' => e = .returned v ∧ w = w' := by
  go_enter Try.func11, Try.ntmps11
  go_wp2
  go_ret
  exact ⟨rfl, rfl⟩
theorem bytes_inj {a b : List UInt8} (h : (⟨a.toArray⟩ : ByteArray) = ⟨b.toArray⟩) : a = b := by simpa using congrArg (fun x : ByteArray => x.data.toList) h
theorem Same_any {w : World} {a b : Option Addr} {c d : Nat} {l m : List UInt8} (h1 : RowAt w a (l.map bv)) (h2 : RowAt w b (m.map bv)) :
    Calls Try.prog 24 #[.slice a l.length c, .slice b m.length d] w fun e w' => e = .returned (.bool (l == m)) ∧ w = w' := by
  have q1 := run_conv (P := Try.prog) (w := w) 28 9 5 Try.underlying28 Try.underlying5 Try.underlying9 (c := c) h1
  have q2 := run_conv (P := Try.prog) (w := w) 28 9 5 Try.underlying28 Try.underlying5 Try.underlying9 (c := d) h2
  go_enter Try.func24, Try.ntmps24
  go_wp2
  go_ret
  exact ⟨rfl, rfl⟩

theorem below_drewN {n : Nat} {w w' : World} (h : Below n w w') (q : Nat) : Below n w (w'.drewN q) := ⟨h.os, h.tape, h.output, h.size, h.block⟩
theorem list_ne_at {α : Type} [BEq α] [LawfulBEq α] {l m : List α} {k : Nat} {x y : α} (hx : l[k]? = some x) (hy : m[k]? = some y) (h : x ≠ y) : (l == m) = false := by
  rw [Bool.eq_false_iff]
  intro e
  rw [beq_iff_eq] at e
  subst e
  rw [hx] at hy
  exact h (Option.some.inj hy)
theorem list_eq_at {α : Type} [BEq α] [LawfulBEq α] {l m : List α} (hl : l.length = m.length) (h : ∀ j, j < l.length → l[j]? = m[j]?) : (l == m) = true := by
  rw [beq_iff_eq]
  refine List.ext_getElem? fun j => ?_
  by_cases hj : j < l.length
  · exact h j hj
  · rw [List.getElem?_eq_none (by omega), List.getElem?_eq_none (by omega)]
theorem list_ne_len {α : Type} [BEq α] [LawfulBEq α] {l m : List α} (hl : l.length ≠ m.length) : (l == m) = false := by
  rw [Bool.eq_false_iff]
  intro e
  rw [beq_iff_eq] at e
  exact hl (by rw [e])

set_option maxHeartbeats 1000000 in
theorem SameTexts_any {w : World} {a b : Option Addr} {c d : Nat} {L M : List (List UInt8)} (h1 : RowAt w a (L.map sv)) (h2 : RowAt w b (M.map sv)) (hl : L.length ≤ maxLen) :
    Calls Try.prog 23 #[.slice a L.length c, .slice b M.length d] w fun e w' => e = .returned (.bool (L == M)) ∧ Below w.heap.size w w' := by
  have hmax : maxLen = 9223372036854775807 := rfl
  have hn : ∀ t : Bool, (L == M) = t → Ending.returned (.bool t) = .returned (.bool (L == M)) := fun t h => by rw [h]
  have HN := Lib.hid hn; clear hn
  by_cases hlen : L.length = M.length
  · have i1 : ((L.length : Int) != (M.length : Int)) = false := by simp [hlen]
    have i2 : ((L.length : Int) == (M.length : Int)) = true := by simp [hlen]
    go_enter Try.func23, Try.ntmps23
    go_wp2
    go_loopw [5] (fun i wr => ∃ k : Nat, k ≤ L.length ∧ i = .int .i64 k ∧ Below w.heap.size w wr ∧ Hid (∀ j, j < k → L[j]? = M[j]?)) (fun i _ => L.length - (RowKit.intOf i).toNat)
    case atStart => exact ⟨0, by omega, rfl, Below.refl _ _, fun j hj => by omega⟩
    case round =>
      obtain ⟨k, hk, rfl, hb, HA⟩ := hrel
      by_cases hlt : k < L.length
      · obtain ⟨x, hx⟩ : ∃ x, L[k]? = some x := ⟨L[k]'hlt, by simp⟩
        obtain ⟨y, hy⟩ : ∃ y, M[k]? = some y := ⟨M[k]'(by omega), by simp⟩
        have r1 := h1.below hb
        have r2 := h2.below hb
        obtain ⟨b1, o1, rfl, c1⟩ := r1.at_ (k := k) (by simpa using hlt)
        obtain ⟨b2, o2, rfl, c2⟩ := r2.at_ (k := k) (by simpa using (by omega : k < M.length))
        rw [show (L.map sv)[k]'(by simpa using hlt) = .string ⟨x.toArray⟩ from by obtain ⟨_, e⟩ := List.getElem?_eq_some_iff.1 hx; simp [e, sv]] at c1
        rw [show (M.map sv)[k]'(by simpa using (by omega : k < M.length)) = .string ⟨y.toArray⟩ from by obtain ⟨_, e⟩ := List.getElem?_eq_some_iff.1 hy; simp [e, sv]] at c2
        have HX := Lib.hid hx; have HY := Lib.hid hy; clear hx hy r1 r2
        have HL := Lib.hid hlen
        have j0 : (k : Int) < (L.length : Int) := by omega
        have j1 : (k : Int) < (M.length : Int) := by omega
        by_cases he : x = y
        · subst he
          have HS : Hid (∀ j, j < k + 1 → L[j]? = M[j]?) := Lib.hid (fun j hj => by
            by_cases e : j = k
            · subst e; rw [HX.out, HY.out]
            · exact HA.out j (by omega))
          clear hlen
          go_wp2
          go_quiet (fail)
          go_wp2
          go_roundw
          case rel => exact ⟨k + 1, by omega, by go_num, below_drewN hb _, HS⟩
          case measure => simp [RowKit.intOf]; omega
        · have e1 : (x == y) = false := by simpa using he
          have e2 : (x != y) = true := by simpa using he
          have HE := Lib.hid he
          clear hlen he
          go_wp2
          go_quiet (fail)
          go_wp2
          go_ret
          exact ⟨HN.out _ (list_ne_at HX.out HY.out HE.out), below_drewN hb _⟩
      · obtain rfl : k = L.length := by omega
        have HL := Lib.hid hlen; clear hlen
        go_wp2
        go_ret
        exact ⟨HN.out _ (list_eq_at HL.out HA.out), hb⟩
  · have i1 : ((L.length : Int) != (M.length : Int)) = true := by simp; omega
    have i2 : ((L.length : Int) == (M.length : Int)) = false := by simp; omega
    have HL := Lib.hid hlen; clear hlen
    go_enter Try.func23, Try.ntmps23
    go_wp2
    go_ret
    exact ⟨HN.out _ (list_ne_len HL.out), Below.refl _ _⟩

end Go.Proofs.Ytgckcnnnblggbaa
