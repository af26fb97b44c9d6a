/- Texts of this claim, one behind the other: IbL. -/
import Derived.Test.YtljobojdcnhecaaFm17
set_option linter.unusedSimpArgs false
set_option linter.unusedVariables false
set_option maxRecDepth 100000
set_option maxHeartbeats 16000000
namespace Go.Proofs.Ytljobojdcnhecaa
/- Find: Bits of bad arguments; Digits. (printed by gen/digx.py) -/
open Go.RowKit Go.Maps Go.MapKept

theorem bits_nil (w : World) (h : List UInt8) (n : Int) : Calls Try.prog 16 #[.pointer none, hashV h, .int .i64 n] w fun e w' => e = .returned (.tuple #[.slice none 0 0, .int .i64 1]) ∧ Below w.heap.size w w' := by
  obtain ⟨w1, hw1, hb1, hz1, hx1⟩ := al1 w (h.map bv).toArray 33
  unfold hashV
  go_enter Try.func16, Try.ntmps16
  go_wp2
  go_ret2
  exact ⟨rfl, hb1⟩
theorem bits_bad (w : World) (bx : Nat) (h : List UInt8) (n : Int) (hn : n < 0 ∨ 256 < n) : Calls Try.prog 16 #[.pointer (some ⟨bx, 0, none⟩), hashV h, .int .i64 n] w fun e w' => e = .returned (.tuple #[.slice none 0 0, .int .i64 2]) ∧ Below w.heap.size w w' := by
  obtain ⟨w1, hw1, hb1, hz1, hx1⟩ := al1 w (h.map bv).toArray 33
  unfold hashV
  by_cases h0 : n < 0
  · have d1 : decide (n < 0) = true := decide_eq_true h0
    go_enter Try.func16, Try.ntmps16
    go_wp2
    go_ret2
    exact ⟨rfl, hb1⟩
  · have h1 : 256 < n := by omega
    have d1 : decide (n < 0) = false := decide_eq_false h0
    have d2 : decide (256 < n) = true := decide_eq_true h1
    go_enter Try.func16, Try.ntmps16
    go_wp2
    go_ret2
    exact ⟨rfl, hb1⟩
theorem digits_nil (w : World) (s : ByteArray) : Calls Try.prog 17 #[.pointer none, .string s] w fun e w' => e = .returned (.tuple #[.slice none 0 0, .int .i64 1]) ∧ Below w.heap.size w w' := by
  go_enter Try.func17, Try.ntmps17
  go_wp2
  go_ret2
  exact ⟨rfl, Below.refl _ _⟩
theorem digits_long (w : World) (bx : Nat) (s : List UInt8) (hs : 64 < s.length) : Calls Try.prog 17 #[.pointer (some ⟨bx, 0, none⟩), .string ⟨s.toArray⟩] w fun e w' => e = .returned (.tuple #[.slice none 0 0, .int .i64 410]) ∧ Below w.heap.size w w' := by
  obtain ⟨w1, hw1, hb1, hz1, hx1⟩ := al1 w zero32 33
  unfold zero32 at hw1
  have hsz : (⟨s.toArray⟩ : ByteArray).size = s.length := by simp [ByteArray.size]
  have d1 : decide ((64 : Int) < (s.length : Int)) = true := decide_eq_true (by omega)
  have d2 : 64 < s.length := hs
  go_enter Try.func17, Try.ntmps17
  go_wp2
  go_ret2
  exact ⟨rfl, hb1⟩
def digN (s : List UInt8) (i : Nat) : Nat := (s[i]?.bind hexD).getD 0
theorem hexL_eq (s : List UInt8) : hexL s = (List.range 32).map fun j => UInt8.ofNat (16 * digN s (2 * j) + digN s (2 * j + 1)) := rfl
theorem digN_lt (s : List UInt8) (i : Nat) : digN s i < 16 := hexS_lt s i
theorem digN_take (s : List UInt8) (k i : Nat) : digN (s.take k) i = if i < k then digN s i else 0 := by
  unfold digN
  rw [List.getElem?_take]
  split <;> rfl
theorem or_hex : ∀ m n : Fin 16, 16 * m.val ||| n.val = 16 * m.val + n.val := by decide +kernel
theorem hexL_at (s : List UInt8) {j : Nat} (hj : j < 32) : ((hexL s).getD j 0).toNat = 16 * digN s (2 * j) + digN s (2 * j + 1) := by
  have h1 := digN_lt s (2 * j)
  have h2 := digN_lt s (2 * j + 1)
  rw [hexL_eq, List.getD_eq_getElem?_getD, List.getElem?_map, List.getElem?_range hj]
  show (UInt8.ofNat _).toNat = _
  rw [UInt8.toNat_ofNat_of_lt' (by show _ < 256; omega)]
/-- one more digit -/
theorem hexL_step {s : List UInt8} {k n : Nat} {c : UInt8} (hk : k < 64) (hc : s[k]? = some c) (hn : hexD c = some n) : ∃ v : Nat, v < 256 ∧ (((hexL (s.take k)).getD (k / 2) 0).toNat ||| n * 2 ^ (4 - 4 * (k % 2))) = v ∧ ((hexL (s.take k)).map bv).set (k / 2) (.int .u8 (v : Int)) = (hexL (s.take (k + 1))).map bv := by
  have hn16 := hexD_lt hn
  have hdk : digN s k = n := by unfold digN; rw [hc, Option.bind_some, hn]; rfl
  have hold := hexL_at (s.take k) (j := k / 2) (by omega)
  have hnew := hexL_at (s.take (k + 1)) (j := k / 2) (by omega)
  have hv : (((hexL (s.take k)).getD (k / 2) 0).toNat ||| n * 2 ^ (4 - 4 * (k % 2))) = ((hexL (s.take (k + 1))).getD (k / 2) 0).toNat := by
    rw [hold, hnew]
    simp only [digN_take]
    by_cases h2 : k % 2 = 0
    · rw [if_neg (by omega), if_neg (by omega), if_pos (by omega), if_neg (by omega), show 2 * (k / 2) = k by omega, hdk, h2]
      simp
      omega
    · rw [if_pos (by omega), if_neg (by omega), if_pos (by omega), if_pos (by omega), show 2 * (k / 2) + 1 = k by omega, hdk, show 4 - 4 * (k % 2) = 0 by omega]
      have := or_hex ⟨digN s (2 * (k / 2)), digN_lt _ _⟩ ⟨n, hn16⟩
      simpa using this
  refine ⟨_, UInt8.toNat_lt _, hv, ?_⟩
  apply List.ext_getElem?
  intro j
  rw [List.getElem?_set, List.getElem?_map, List.getElem?_map, List.length_map, hexL_len]
  by_cases hj : k / 2 = j
  · subst hj
    rw [if_pos rfl, if_pos (by omega)]
    have hl : k / 2 < (hexL (s.take (k + 1))).length := by rw [hexL_len]; omega
    rw [List.getElem?_eq_getElem hl]
    simp [bv, List.getD, List.getElem?_eq_getElem hl]
  · rw [if_neg hj]
    congr 1
    rw [hexL_eq, hexL_eq, List.getElem?_map, List.getElem?_map]
    by_cases hj32 : j < 32
    · rw [List.getElem?_range hj32]
      simp only [Option.map_some, digN_take]
      congr 2
      by_cases h1 : 2 * j + 1 < k
      · rw [if_pos (by omega), if_pos (by omega), if_pos (by omega), if_pos (by omega)]
      · rw [if_neg (by omega), if_neg (by omega), if_neg (by omega), if_neg (by omega)]
    · rw [List.getElem?_eq_none (by simpa using hj32)]
      rfl
theorem hexD_cases (c : UInt8) : (∃ n, hexD c = some n ∧ 48 ≤ c.toNat ∧ c.toNat ≤ 57 ∧ n + 48 = c.toNat) ∨ (∃ n, hexD c = some n ∧ 97 ≤ c.toNat ∧ c.toNat ≤ 102 ∧ n + 87 = c.toNat) ∨ (hexD c = none ∧ (c.toNat < 48 ∨ 57 < c.toNat) ∧ (c.toNat < 97 ∨ 102 < c.toNat)) := by
  unfold hexD
  by_cases h1 : 48 ≤ c.toNat ∧ c.toNat ≤ 57
  · rw [if_pos h1]; exact Or.inl ⟨_, rfl, h1.1, h1.2, by omega⟩
  · rw [if_neg h1]
    by_cases h2 : 97 ≤ c.toNat ∧ c.toNat ≤ 102
    · rw [if_pos h2]; exact Or.inr (Or.inl ⟨_, rfl, h2.1, h2.2, by omega⟩)
    · rw [if_neg h2]; exact Or.inr (Or.inr ⟨rfl, by omega, by omega⟩)
theorem zero_hex : zero32 = ((hexL []).map bv).toArray := by
  have : hexL [] = List.replicate 32 0 := by decide +kernel
  rw [this]
  rfl
theorem run_shl4 {n : Nat} (h : n < 16) (W : World) : (Op.shift BinOp.shl IntKind.u8 (n : Int) IntKind.i64 (IntKind.i64.wrap (4 - IntKind.i64.wrap 0))).run Try.prog W = .ok (.int .u8 ((n : Int) * 16)) W := by
  have : n = 0 ∨ n = 1 ∨ n = 2 ∨ n = 3 ∨ n = 4 ∨ n = 5 ∨ n = 6 ∨ n = 7 ∨ n = 8 ∨ n = 9 ∨ n = 10 ∨ n = 11 ∨ n = 12 ∨ n = 13 ∨ n = 14 ∨ n = 15 := by omega
  rcases this with rfl | rfl | rfl | rfl | rfl | rfl | rfl | rfl | rfl | rfl | rfl | rfl | rfl | rfl | rfl | rfl <;> rfl
theorem run_shl0 {n : Nat} (h : n < 16) (W : World) : (Op.shift BinOp.shl IntKind.u8 (n : Int) IntKind.i64 (IntKind.i64.wrap (4 - IntKind.i64.wrap 4))).run Try.prog W = .ok (.int .u8 ((n : Int))) W := by
  have : n = 0 ∨ n = 1 ∨ n = 2 ∨ n = 3 ∨ n = 4 ∨ n = 5 ∨ n = 6 ∨ n = 7 ∨ n = 8 ∨ n = 9 ∨ n = 10 ∨ n = 11 ∨ n = 12 ∨ n = 13 ∨ n = 14 ∨ n = 15 := by omega
  rcases this with rfl | rfl | rfl | rfl | rfl | rfl | rfl | rfl | rfl | rfl | rfl | rfl | rfl | rfl | rfl | rfl <;> rfl
/-- what Digits answers -/
def digV (H : List (List UInt8)) (s : List UInt8) : List Nat := bitsN H (hexL s) (4 * s.length)
def DigPost (w : World) (E : List (List UInt8)) (s : List UInt8) (e : Ending) (w' : World) : Prop := (if s.all (fun c => (hexD c).isSome) then ∃ v, e = .returned (.tuple #[v, .int .i64 0]) ∧ w'.ownsRow w.heap.size 3 1 v (digV (E.map leaf) s).length ((digV (E.map leaf) s).map iv) else e = .returned (.tuple #[.slice none 0 0, .int .i64 410])) ∧ Below w.heap.size w w'
theorem digits_any {F G : Nat → Prop} {w : World} {bx : Nat} {E : List (List UInt8)} {s : List UInt8} (hX : XAt F G w bx E) (hE : E.length ≤ 4194304) (hs : s.length ≤ 64) :
    Calls Try.prog 17 #[.pointer (some ⟨bx, 0, none⟩), .string ⟨s.toArray⟩] w (DigPost w E s) := by
  obtain ⟨w1, hw1, hb1, hz1, hx1⟩ := al1 w zero32 33
  rw [zero_hex] at hx1
  unfold zero32 at hw1
  have hsz : (⟨s.toArray⟩ : ByteArray).size = s.length := by simp [ByteArray.size]
  have d1 : decide ((64 : Int) < (s.length : Int)) = false := decide_eq_false (by omega)
  have d2 : ¬ 64 < s.length := by omega
  have HX := Lib.hid hX
  clear hX
  go_enter Try.func17, Try.ntmps17
  go_wp2
  go_loopw [16] (fun i wr => ∃ k : Nat, k ≤ s.length ∧ i = .int .i64 (k : Int) ∧ Hid (∀ c ∈ s.take k, (hexD c).isSome = true) ∧ Hid (∃ l, hexL (s.take k) = l ∧ wr.heap[w.heap.size]? = some (.cells (l.map bv).toArray 33 (0, 0))) ∧ Below w.heap.size w wr) (fun i _ => s.length - (RowKit.intOf i).toNat)
  case atStart => exact ⟨0, by omega, rfl, (fun c hc => by simp at hc), ⟨_, by rw [List.take_zero], hx1⟩, hb1⟩
  case round =>
    obtain ⟨k, hk, rfl, hval, hg0, hbw⟩ := hrel
    obtain ⟨l, hl, hg⟩ := hg0.out
    by_cases hlt : k < s.length
    · obtain ⟨c, hc⟩ : ∃ c, s[k]? = some c := ⟨_, List.getElem?_eq_getElem hlt⟩
      have i1 : (0 : Int) ≤ (k : Int) := by omega
      have i2 : (k : Int) < (s.length : Int) := by omega
      have hck : s[k]'hlt = c := (List.getElem?_eq_some_iff.1 hc).2
      have hx256 := c.toNat_lt
      have hch : (⟨s.toArray⟩ : ByteArray)[k]'(by rw [hsz]; exact hlt) = c := by
        show s.toArray[k] = c
        rw [List.getElem_toArray]; exact hck
      obtain ⟨x, hx⟩ : ∃ x, c.toNat = x := ⟨_, rfl⟩
      have HC := Lib.hid (And.intro hc hl)
      have HB := Lib.hid hbw
      rcases hexD_cases c with ⟨n, hn, h1, h2, h3⟩ | ⟨n, hn, h1, h2, h3⟩ | ⟨hn, h1, h2⟩
      · rw [hx] at h1 h2 h3 hx256
        have e1 : (48 : Int) ≤ (x : Int) := by omega
        have e2 : (x : Int) ≤ 57 := by omega
        clear hc hl hck hbw h1 h2
        rcases Nat.mod_two_eq_zero_or_one k with hr | hr
        · obtain ⟨j, hj⟩ : ∃ j, k / 2 = j := ⟨_, rfl⟩
          obtain ⟨v, hv1, hv2, hv3⟩ := hexL_step (s := s) (k := k) (by omega) HC.out.1 hn
          rw [hj, HC.out.2, hr] at hv2
          rw [hj, HC.out.2] at hv3
          have hn16 := hexD_lt hn
          have hlen : l.length = 32 := by rw [← HC.out.2, hexL_len]
          obtain ⟨a, ha⟩ : ∃ a : Nat, (l.getD j 0).toNat = a := ⟨_, rfl⟩
          have ha256 : a < 256 := by rw [← ha]; exact UInt8.toNat_lt _
          rw [ha] at hv2
          have hj32 : j < 32 := by omega
          have qa := cell_of_heap hg (i := j) (v := .int .u8 (a : Int)) (by
            rw [List.getElem?_toArray, List.getElem?_map, List.getElem?_eq_getElem (by omega : j < l.length), ← ha]
            simp [bv, List.getD, List.getElem?_eq_getElem (by omega : j < l.length)])
          have zqa := fz j hg
          have hd : (k : Int) / 2 = (j : Int) := by omega
          have hd' : Int.tdiv (k : Int) 2 = (j : Int) := by rw [Int.tdiv_eq_ediv_of_nonneg (by omega)]; exact hd
          have hm : (k : Int) % 2 = 0 := by omega
          have hm' : Int.tmod (k : Int) 2 = 0 := by rw [Int.tmod_eq_emod_of_nonneg (by omega)]; exact hm
          have hwj : IntKind.i64.wrap (j : Int) = (j : Int) := by rw [Go.IntWalk.i64_in] <;> omega
          have i3 : (0 : Int) ≤ (j : Int) := by omega
          have i4 : (j : Int) < 32 := by omega
          have hnx : (x : Int) - 48 = (n : Int) := by omega
          have hor : bits .or .u8 (a : Int) ((n * 16 : Nat) : Int) = ((a ||| n * 16 : Nat) : Int) := u8_or_nat a _ ha256 (by omega)
          rw [show a ||| n * 16 = v from by simpa using hv2] at hor
          have hshl : ((n * 16 : Nat) : Int) = (n : Int) * 16 := by omega
          rw [hshl] at hor
          have hwn : IntKind.u8.wrap (n : Int) = (n : Int) := by rw [IntKind.wrap_u8']; omega
          have hwn2 : IntKind.u8.wrap ((n : Int) * 16) = (n : Int) * 16 := by rw [IntKind.wrap_u8']; omega
          have hsf := fun W => run_shl4 hn16 W
          have hst := heap_set_cells (i := j) (.int .u8 (v : Int)) hg
          rw [List.setIfInBounds_toArray, hv3] at hst
          have hva : ∀ d ∈ s.take (k + 1), (hexD d).isSome = true := fun d hd => by
            rw [List.take_add_one, HC.out.1] at hd
            rcases List.mem_append.1 hd with hd | hd
            · exact hval.out d hd
            · obtain rfl : d = c := by simpa using hd
              rw [hn]; rfl
          have HS := Lib.hid (And.intro hst hva)
          clear hst hva hv2 hv3 hshl ha hlen hg hn hj hr hval
          go_upto_region 15 with fail
          refine wp_region_held_drew (S := fun _ => True) (by kernel_rfl) trivial (fun hHeld => ?_)
          refine tk 0 ?_ hHeld (fun w' hSw => ?_) ?_; rotate_left
          · (go_simp; all_goals (with_reducible rfl))
          (try simp only [Act.put, Zz])
          refine tk 1 ?_ hHeld (fun w' hSw => ?_) ?_; rotate_left
          · (go_simp; all_goals (with_reducible rfl))
          (try simp only [Act.put, Zz])
          refine tk 2 ?_ hHeld (fun w' hSw => ?_) ?_; rotate_left
          · (go_simp; all_goals (with_reducible rfl))
          (try simp only [Act.put, Zz])
          refine tk 4 ?_ hHeld (fun w' hSw => ?_) ?_; rotate_left
          · (go_simp; all_goals (with_reducible rfl))
          (try simp only [Act.put, Zz])
          refine tk 5 ?_ hHeld (fun w' hSw => ?_) ?_; rotate_left
          · (go_simp; all_goals (with_reducible rfl))
          (try simp only [Act.put, Zz])
          refine tk 6 ?_ hHeld (fun w' hSw => ?_) ?_; rotate_left
          · (go_simp; all_goals (with_reducible rfl))
          (try simp only [Act.put, Zz])
          refine tk 7 ?_ hHeld (fun w' hSw => ?_) ?_; rotate_left
          · (go_simp; all_goals (with_reducible rfl))
          (try simp only [Act.put, Zz])
          refine tk 8 ?_ hHeld (fun w' hSw => ?_) ?_; rotate_left
          · (go_simp; all_goals (with_reducible rfl))
          (try simp only [Act.put, Zz])
          refine tk 9 ?_ hHeld (fun w' hSw => ?_) ?_; rotate_left
          · (go_simp; all_goals (with_reducible rfl))
          (try simp only [Act.put, Zz])
          refine wpAnyH_ready (rs := [3]) (by kernel_rfl) (by simp) ?_
          refine AllReadyH.cons rfl (fun K hK => ?_) AllReadyH.nil
          go_simp
          refine hK.out _ _ (trivial) (fun hHeld => ?_)
          clear hK K
          (try simp only [Act.put, Zz])
          refine tk 10 ?_ hHeld (fun w' hSw => ?_) ?_; rotate_left
          · (go_simp; all_goals (with_reducible rfl))
          (try simp only [Act.put, Zz])
          refine tk 11 ?_ hHeld (fun w' hSw => ?_) ?_; rotate_left
          · (go_simp; all_goals (with_reducible rfl))
          (try simp only [Act.put, Zz])
          refine wpAnyH_ready (rs := [12]) (by kernel_rfl) (by simp) ?_
          refine AllReadyH.cons rfl (fun K hK => ?_) AllReadyH.nil
          go_simp
          refine hK.out _ _ (trivial) (fun hHeld => ?_)
          clear hK K
          (try simp only [Act.put, Zz])
          refine wpAnyH_done (by kernel_rfl) ?_ _
          (try simp only [Act.put, Zz])
          clear hHeld
          go_wp2
          go_roundw
          case rel => exact ⟨k + 1, by omega, by go_num, HS.out.2, ⟨_, rfl, HS.out.1⟩, below_wdrew (Chg.below_new HB.out (Chg.set (O := fun x => x = w.heap.size) _ rfl) (fun b e => by rw [e]; exact Nat.le_refl _))⟩
          case measure => simp [RowKit.intOf]; omega
        · obtain ⟨j, hj⟩ : ∃ j, k / 2 = j := ⟨_, rfl⟩
          obtain ⟨v, hv1, hv2, hv3⟩ := hexL_step (s := s) (k := k) (by omega) HC.out.1 hn
          rw [hj, HC.out.2, hr] at hv2
          rw [hj, HC.out.2] at hv3
          have hn16 := hexD_lt hn
          have hlen : l.length = 32 := by rw [← HC.out.2, hexL_len]
          obtain ⟨a, ha⟩ : ∃ a : Nat, (l.getD j 0).toNat = a := ⟨_, rfl⟩
          have ha256 : a < 256 := by rw [← ha]; exact UInt8.toNat_lt _
          rw [ha] at hv2
          have hj32 : j < 32 := by omega
          have qa := cell_of_heap hg (i := j) (v := .int .u8 (a : Int)) (by
            rw [List.getElem?_toArray, List.getElem?_map, List.getElem?_eq_getElem (by omega : j < l.length), ← ha]
            simp [bv, List.getD, List.getElem?_eq_getElem (by omega : j < l.length)])
          have zqa := fz j hg
          have hd : (k : Int) / 2 = (j : Int) := by omega
          have hd' : Int.tdiv (k : Int) 2 = (j : Int) := by rw [Int.tdiv_eq_ediv_of_nonneg (by omega)]; exact hd
          have hm : (k : Int) % 2 = 1 := by omega
          have hm' : Int.tmod (k : Int) 2 = 1 := by rw [Int.tmod_eq_emod_of_nonneg (by omega)]; exact hm
          have hwj : IntKind.i64.wrap (j : Int) = (j : Int) := by rw [Go.IntWalk.i64_in] <;> omega
          have i3 : (0 : Int) ≤ (j : Int) := by omega
          have i4 : (j : Int) < 32 := by omega
          have hnx : (x : Int) - 48 = (n : Int) := by omega
          have hor : bits .or .u8 (a : Int) ((n * 1 : Nat) : Int) = ((a ||| n * 1 : Nat) : Int) := u8_or_nat a _ ha256 (by omega)
          rw [show a ||| n * 1 = v from by simpa using hv2] at hor
          have hshl : ((n * 1 : Nat) : Int) = (n : Int) * 1 := by omega
          rw [hshl] at hor
          rw [Int.mul_one] at hor
          have hwn : IntKind.u8.wrap (n : Int) = (n : Int) := by rw [IntKind.wrap_u8']; omega
          have hwn2 : IntKind.u8.wrap ((n : Int) * 16) = (n : Int) * 16 := by rw [IntKind.wrap_u8']; omega
          have hsf := fun W => run_shl0 hn16 W
          have hst := heap_set_cells (i := j) (.int .u8 (v : Int)) hg
          rw [List.setIfInBounds_toArray, hv3] at hst
          have hva : ∀ d ∈ s.take (k + 1), (hexD d).isSome = true := fun d hd => by
            rw [List.take_add_one, HC.out.1] at hd
            rcases List.mem_append.1 hd with hd | hd
            · exact hval.out d hd
            · obtain rfl : d = c := by simpa using hd
              rw [hn]; rfl
          have HS := Lib.hid (And.intro hst hva)
          clear hst hva hv2 hv3 hshl ha hlen hg hn hj hr hval
          go_upto_region 15 with fail
          refine wp_region_held_drew (S := fun _ => True) (by kernel_rfl) trivial (fun hHeld => ?_)
          refine tk 0 ?_ hHeld (fun w' hSw => ?_) ?_; rotate_left
          · (go_simp; all_goals (with_reducible rfl))
          (try simp only [Act.put, Zz])
          refine tk 1 ?_ hHeld (fun w' hSw => ?_) ?_; rotate_left
          · (go_simp; all_goals (with_reducible rfl))
          (try simp only [Act.put, Zz])
          refine tk 2 ?_ hHeld (fun w' hSw => ?_) ?_; rotate_left
          · (go_simp; all_goals (with_reducible rfl))
          (try simp only [Act.put, Zz])
          refine tk 4 ?_ hHeld (fun w' hSw => ?_) ?_; rotate_left
          · (go_simp; all_goals (with_reducible rfl))
          (try simp only [Act.put, Zz])
          refine tk 5 ?_ hHeld (fun w' hSw => ?_) ?_; rotate_left
          · (go_simp; all_goals (with_reducible rfl))
          (try simp only [Act.put, Zz])
          refine tk 6 ?_ hHeld (fun w' hSw => ?_) ?_; rotate_left
          · (go_simp; all_goals (with_reducible rfl))
          (try simp only [Act.put, Zz])
          refine tk 7 ?_ hHeld (fun w' hSw => ?_) ?_; rotate_left
          · (go_simp; all_goals (with_reducible rfl))
          (try simp only [Act.put, Zz])
          refine tk 8 ?_ hHeld (fun w' hSw => ?_) ?_; rotate_left
          · (go_simp; all_goals (with_reducible rfl))
          (try simp only [Act.put, Zz])
          refine tk 9 ?_ hHeld (fun w' hSw => ?_) ?_; rotate_left
          · (go_simp; all_goals (with_reducible rfl))
          (try simp only [Act.put, Zz])
          refine wpAnyH_ready (rs := [3]) (by kernel_rfl) (by simp) ?_
          refine AllReadyH.cons rfl (fun K hK => ?_) AllReadyH.nil
          go_simp
          refine hK.out _ _ (trivial) (fun hHeld => ?_)
          clear hK K
          (try simp only [Act.put, Zz])
          refine tk 10 ?_ hHeld (fun w' hSw => ?_) ?_; rotate_left
          · (go_simp; all_goals (with_reducible rfl))
          (try simp only [Act.put, Zz])
          refine tk 11 ?_ hHeld (fun w' hSw => ?_) ?_; rotate_left
          · (go_simp; all_goals (with_reducible rfl))
          (try simp only [Act.put, Zz])
          refine wpAnyH_ready (rs := [12]) (by kernel_rfl) (by simp) ?_
          refine AllReadyH.cons rfl (fun K hK => ?_) AllReadyH.nil
          go_simp
          refine hK.out _ _ (trivial) (fun hHeld => ?_)
          clear hK K
          (try simp only [Act.put, Zz])
          refine wpAnyH_done (by kernel_rfl) ?_ _
          (try simp only [Act.put, Zz])
          clear hHeld
          go_wp2
          go_roundw
          case rel => exact ⟨k + 1, by omega, by go_num, HS.out.2, ⟨_, rfl, HS.out.1⟩, below_wdrew (Chg.below_new HB.out (Chg.set (O := fun x => x = w.heap.size) _ rfl) (fun b e => by rw [e]; exact Nat.le_refl _))⟩
          case measure => simp [RowKit.intOf]; omega
      · rw [hx] at h1 h2 h3 hx256
        have e1 : (48 : Int) ≤ (x : Int) := by omega
        have e2 : ¬ (x : Int) ≤ 57 := by omega
        have e3 : (97 : Int) ≤ (x : Int) := by omega
        have e4 : (x : Int) ≤ 102 := by omega
        clear hc hl hck hbw h1 h2
        rcases Nat.mod_two_eq_zero_or_one k with hr | hr
        · obtain ⟨j, hj⟩ : ∃ j, k / 2 = j := ⟨_, rfl⟩
          obtain ⟨v, hv1, hv2, hv3⟩ := hexL_step (s := s) (k := k) (by omega) HC.out.1 hn
          rw [hj, HC.out.2, hr] at hv2
          rw [hj, HC.out.2] at hv3
          have hn16 := hexD_lt hn
          have hlen : l.length = 32 := by rw [← HC.out.2, hexL_len]
          obtain ⟨a, ha⟩ : ∃ a : Nat, (l.getD j 0).toNat = a := ⟨_, rfl⟩
          have ha256 : a < 256 := by rw [← ha]; exact UInt8.toNat_lt _
          rw [ha] at hv2
          have hj32 : j < 32 := by omega
          have qa := cell_of_heap hg (i := j) (v := .int .u8 (a : Int)) (by
            rw [List.getElem?_toArray, List.getElem?_map, List.getElem?_eq_getElem (by omega : j < l.length), ← ha]
            simp [bv, List.getD, List.getElem?_eq_getElem (by omega : j < l.length)])
          have zqa := fz j hg
          have hd : (k : Int) / 2 = (j : Int) := by omega
          have hd' : Int.tdiv (k : Int) 2 = (j : Int) := by rw [Int.tdiv_eq_ediv_of_nonneg (by omega)]; exact hd
          have hm : (k : Int) % 2 = 0 := by omega
          have hm' : Int.tmod (k : Int) 2 = 0 := by rw [Int.tmod_eq_emod_of_nonneg (by omega)]; exact hm
          have hwj : IntKind.i64.wrap (j : Int) = (j : Int) := by rw [Go.IntWalk.i64_in] <;> omega
          have i3 : (0 : Int) ≤ (j : Int) := by omega
          have i4 : (j : Int) < 32 := by omega
          have hnx : (x : Int) - 87 = (n : Int) := by omega
          have hor : bits .or .u8 (a : Int) ((n * 16 : Nat) : Int) = ((a ||| n * 16 : Nat) : Int) := u8_or_nat a _ ha256 (by omega)
          rw [show a ||| n * 16 = v from by simpa using hv2] at hor
          have hshl : ((n * 16 : Nat) : Int) = (n : Int) * 16 := by omega
          rw [hshl] at hor
          have hwn : IntKind.u8.wrap (n : Int) = (n : Int) := by rw [IntKind.wrap_u8']; omega
          have hwn2 : IntKind.u8.wrap ((n : Int) * 16) = (n : Int) * 16 := by rw [IntKind.wrap_u8']; omega
          have hsf := fun W => run_shl4 hn16 W
          have hst := heap_set_cells (i := j) (.int .u8 (v : Int)) hg
          rw [List.setIfInBounds_toArray, hv3] at hst
          have hva : ∀ d ∈ s.take (k + 1), (hexD d).isSome = true := fun d hd => by
            rw [List.take_add_one, HC.out.1] at hd
            rcases List.mem_append.1 hd with hd | hd
            · exact hval.out d hd
            · obtain rfl : d = c := by simpa using hd
              rw [hn]; rfl
          have HS := Lib.hid (And.intro hst hva)
          clear hst hva hv2 hv3 hshl ha hlen hg hn hj hr hval
          go_upto_region 15 with fail
          refine wp_region_held_drew (S := fun _ => True) (by kernel_rfl) trivial (fun hHeld => ?_)
          refine tk 0 ?_ hHeld (fun w' hSw => ?_) ?_; rotate_left
          · (go_simp; all_goals (with_reducible rfl))
          (try simp only [Act.put, Zz])
          refine tk 1 ?_ hHeld (fun w' hSw => ?_) ?_; rotate_left
          · (go_simp; all_goals (with_reducible rfl))
          (try simp only [Act.put, Zz])
          refine tk 2 ?_ hHeld (fun w' hSw => ?_) ?_; rotate_left
          · (go_simp; all_goals (with_reducible rfl))
          (try simp only [Act.put, Zz])
          refine tk 4 ?_ hHeld (fun w' hSw => ?_) ?_; rotate_left
          · (go_simp; all_goals (with_reducible rfl))
          (try simp only [Act.put, Zz])
          refine tk 5 ?_ hHeld (fun w' hSw => ?_) ?_; rotate_left
          · (go_simp; all_goals (with_reducible rfl))
          (try simp only [Act.put, Zz])
          refine tk 6 ?_ hHeld (fun w' hSw => ?_) ?_; rotate_left
          · (go_simp; all_goals (with_reducible rfl))
          (try simp only [Act.put, Zz])
          refine tk 7 ?_ hHeld (fun w' hSw => ?_) ?_; rotate_left
          · (go_simp; all_goals (with_reducible rfl))
          (try simp only [Act.put, Zz])
          refine tk 8 ?_ hHeld (fun w' hSw => ?_) ?_; rotate_left
          · (go_simp; all_goals (with_reducible rfl))
          (try simp only [Act.put, Zz])
          refine tk 9 ?_ hHeld (fun w' hSw => ?_) ?_; rotate_left
          · (go_simp; all_goals (with_reducible rfl))
          (try simp only [Act.put, Zz])
          refine wpAnyH_ready (rs := [3]) (by kernel_rfl) (by simp) ?_
          refine AllReadyH.cons rfl (fun K hK => ?_) AllReadyH.nil
          go_simp
          refine hK.out _ _ (trivial) (fun hHeld => ?_)
          clear hK K
          (try simp only [Act.put, Zz])
          refine tk 10 ?_ hHeld (fun w' hSw => ?_) ?_; rotate_left
          · (go_simp; all_goals (with_reducible rfl))
          (try simp only [Act.put, Zz])
          refine tk 11 ?_ hHeld (fun w' hSw => ?_) ?_; rotate_left
          · (go_simp; all_goals (with_reducible rfl))
          (try simp only [Act.put, Zz])
          refine wpAnyH_ready (rs := [12]) (by kernel_rfl) (by simp) ?_
          refine AllReadyH.cons rfl (fun K hK => ?_) AllReadyH.nil
          go_simp
          refine hK.out _ _ (trivial) (fun hHeld => ?_)
          clear hK K
          (try simp only [Act.put, Zz])
          refine wpAnyH_done (by kernel_rfl) ?_ _
          (try simp only [Act.put, Zz])
          clear hHeld
          go_wp2
          go_roundw
          case rel => exact ⟨k + 1, by omega, by go_num, HS.out.2, ⟨_, rfl, HS.out.1⟩, below_wdrew (Chg.below_new HB.out (Chg.set (O := fun x => x = w.heap.size) _ rfl) (fun b e => by rw [e]; exact Nat.le_refl _))⟩
          case measure => simp [RowKit.intOf]; omega
        · obtain ⟨j, hj⟩ : ∃ j, k / 2 = j := ⟨_, rfl⟩
          obtain ⟨v, hv1, hv2, hv3⟩ := hexL_step (s := s) (k := k) (by omega) HC.out.1 hn
          rw [hj, HC.out.2, hr] at hv2
          rw [hj, HC.out.2] at hv3
          have hn16 := hexD_lt hn
          have hlen : l.length = 32 := by rw [← HC.out.2, hexL_len]
          obtain ⟨a, ha⟩ : ∃ a : Nat, (l.getD j 0).toNat = a := ⟨_, rfl⟩
          have ha256 : a < 256 := by rw [← ha]; exact UInt8.toNat_lt _
          rw [ha] at hv2
          have hj32 : j < 32 := by omega
          have qa := cell_of_heap hg (i := j) (v := .int .u8 (a : Int)) (by
            rw [List.getElem?_toArray, List.getElem?_map, List.getElem?_eq_getElem (by omega : j < l.length), ← ha]
            simp [bv, List.getD, List.getElem?_eq_getElem (by omega : j < l.length)])
          have zqa := fz j hg
          have hd : (k : Int) / 2 = (j : Int) := by omega
          have hd' : Int.tdiv (k : Int) 2 = (j : Int) := by rw [Int.tdiv_eq_ediv_of_nonneg (by omega)]; exact hd
          have hm : (k : Int) % 2 = 1 := by omega
          have hm' : Int.tmod (k : Int) 2 = 1 := by rw [Int.tmod_eq_emod_of_nonneg (by omega)]; exact hm
          have hwj : IntKind.i64.wrap (j : Int) = (j : Int) := by rw [Go.IntWalk.i64_in] <;> omega
          have i3 : (0 : Int) ≤ (j : Int) := by omega
          have i4 : (j : Int) < 32 := by omega
          have hnx : (x : Int) - 87 = (n : Int) := by omega
          have hor : bits .or .u8 (a : Int) ((n * 1 : Nat) : Int) = ((a ||| n * 1 : Nat) : Int) := u8_or_nat a _ ha256 (by omega)
          rw [show a ||| n * 1 = v from by simpa using hv2] at hor
          have hshl : ((n * 1 : Nat) : Int) = (n : Int) * 1 := by omega
          rw [hshl] at hor
          rw [Int.mul_one] at hor
          have hwn : IntKind.u8.wrap (n : Int) = (n : Int) := by rw [IntKind.wrap_u8']; omega
          have hwn2 : IntKind.u8.wrap ((n : Int) * 16) = (n : Int) * 16 := by rw [IntKind.wrap_u8']; omega
          have hsf := fun W => run_shl0 hn16 W
          have hst := heap_set_cells (i := j) (.int .u8 (v : Int)) hg
          rw [List.setIfInBounds_toArray, hv3] at hst
          have hva : ∀ d ∈ s.take (k + 1), (hexD d).isSome = true := fun d hd => by
            rw [List.take_add_one, HC.out.1] at hd
            rcases List.mem_append.1 hd with hd | hd
            · exact hval.out d hd
            · obtain rfl : d = c := by simpa using hd
              rw [hn]; rfl
          have HS := Lib.hid (And.intro hst hva)
          clear hst hva hv2 hv3 hshl ha hlen hg hn hj hr hval
          go_upto_region 15 with fail
          refine wp_region_held_drew (S := fun _ => True) (by kernel_rfl) trivial (fun hHeld => ?_)
          refine tk 0 ?_ hHeld (fun w' hSw => ?_) ?_; rotate_left
          · (go_simp; all_goals (with_reducible rfl))
          (try simp only [Act.put, Zz])
          refine tk 1 ?_ hHeld (fun w' hSw => ?_) ?_; rotate_left
          · (go_simp; all_goals (with_reducible rfl))
          (try simp only [Act.put, Zz])
          refine tk 2 ?_ hHeld (fun w' hSw => ?_) ?_; rotate_left
          · (go_simp; all_goals (with_reducible rfl))
          (try simp only [Act.put, Zz])
          refine tk 4 ?_ hHeld (fun w' hSw => ?_) ?_; rotate_left
          · (go_simp; all_goals (with_reducible rfl))
          (try simp only [Act.put, Zz])
          refine tk 5 ?_ hHeld (fun w' hSw => ?_) ?_; rotate_left
          · (go_simp; all_goals (with_reducible rfl))
          (try simp only [Act.put, Zz])
          refine tk 6 ?_ hHeld (fun w' hSw => ?_) ?_; rotate_left
          · (go_simp; all_goals (with_reducible rfl))
          (try simp only [Act.put, Zz])
          refine tk 7 ?_ hHeld (fun w' hSw => ?_) ?_; rotate_left
          · (go_simp; all_goals (with_reducible rfl))
          (try simp only [Act.put, Zz])
          refine tk 8 ?_ hHeld (fun w' hSw => ?_) ?_; rotate_left
          · (go_simp; all_goals (with_reducible rfl))
          (try simp only [Act.put, Zz])
          refine tk 9 ?_ hHeld (fun w' hSw => ?_) ?_; rotate_left
          · (go_simp; all_goals (with_reducible rfl))
          (try simp only [Act.put, Zz])
          refine wpAnyH_ready (rs := [3]) (by kernel_rfl) (by simp) ?_
          refine AllReadyH.cons rfl (fun K hK => ?_) AllReadyH.nil
          go_simp
          refine hK.out _ _ (trivial) (fun hHeld => ?_)
          clear hK K
          (try simp only [Act.put, Zz])
          refine tk 10 ?_ hHeld (fun w' hSw => ?_) ?_; rotate_left
          · (go_simp; all_goals (with_reducible rfl))
          (try simp only [Act.put, Zz])
          refine tk 11 ?_ hHeld (fun w' hSw => ?_) ?_; rotate_left
          · (go_simp; all_goals (with_reducible rfl))
          (try simp only [Act.put, Zz])
          refine wpAnyH_ready (rs := [12]) (by kernel_rfl) (by simp) ?_
          refine AllReadyH.cons rfl (fun K hK => ?_) AllReadyH.nil
          go_simp
          refine hK.out _ _ (trivial) (fun hHeld => ?_)
          clear hK K
          (try simp only [Act.put, Zz])
          refine wpAnyH_done (by kernel_rfl) ?_ _
          (try simp only [Act.put, Zz])
          clear hHeld
          go_wp2
          go_roundw
          case rel => exact ⟨k + 1, by omega, by go_num, HS.out.2, ⟨_, rfl, HS.out.1⟩, below_wdrew (Chg.below_new HB.out (Chg.set (O := fun x => x = w.heap.size) _ rfl) (fun b e => by rw [e]; exact Nat.le_refl _))⟩
          case measure => simp [RowKit.intOf]; omega
      · rw [hx] at h1 h2 hx256
        have hno : s.all (fun c => (hexD c).isSome) = false := by
          rw [List.all_eq_false]
          exact ⟨c, List.mem_of_getElem? hc, by rw [hn]; simp⟩
        have HNO := Lib.hid hno
        clear hc hl hck hbw hno hval hg hn
        by_cases f1 : x < 48
        · have e1 : ¬ (48 : Int) ≤ (x : Int) := by omega
          have e3 : ¬ (97 : Int) ≤ (x : Int) := by omega
          clear h1 h2 f1
          go_wp2
          go_ret2
          exact ⟨by rw [if_neg (by rw [HNO.out]; decide)]; rfl, HB.out⟩
        · have e1 : (48 : Int) ≤ (x : Int) := by omega
          have e2 : ¬ (x : Int) ≤ 57 := by omega
          by_cases f2 : x < 97
          · have e3 : ¬ (97 : Int) ≤ (x : Int) := by omega
            clear h1 h2 f1 f2
            go_wp2
            go_ret2
            exact ⟨by rw [if_neg (by rw [HNO.out]; decide)]; rfl, HB.out⟩
          · have e3 : (97 : Int) ≤ (x : Int) := by omega
            have e4 : ¬ (x : Int) ≤ 102 := by omega
            clear h1 h2 f1 f2
            go_wp2
            go_ret2
            exact ⟨by rw [if_neg (by rw [HNO.out]; decide)]; rfl, HB.out⟩
    · have e : k = s.length := by omega
      subst e
      rw [List.take_length] at hl
      have hval2 := hval.out
      rw [List.take_length] at hval2
      have hyes : s.all (fun c => (hexD c).isSome) = true := List.all_eq_true.2 hval2
      have HYES := Lib.hid hyes
      have hlen : l.length = 32 := by rw [← hl, hexL_len]
      have cB := fun W (hW : Below w.heap.size w W) => bits_any (w := W) (h := l) (b := 4 * s.length) (HX.out.below hW) hE hlen (by omega)
      have hwl : IntKind.i64.wrap (4 * (s.length : Int)) = 4 * (s.length : Int) := by rw [Go.IntWalk.i64_in] <;> omega
      have hwm : ((4 * s.length : Nat) : Int) = 4 * (s.length : Int) := by omega
      rw [hwm] at cB
      clear hwm
      have HB := Lib.hid hbw
      have HL := Lib.hid hl
      have hlz : Hid (((l.map bv).toArray).size = 32) := by show _ = _; rw [List.size_toArray, List.length_map, hlen]
      have HG := Lib.hid hg
      unfold hashV at cB
      clear hl hlen hval2 hbw hg hval hyes
      go_wp2_with (refine wpList_load_row rfl 33 _ rfl w.heap.size (by rfl) _ _ _ _ HG.out Try.underlying33 (by kernel_rfl) (by rw [hlz.out]; kernel_rfl) ?_)
      ((with_reducible refine (cB wr HB.out).mono ?_); rintro _ w6 ⟨v, rfl, hr6, hb6⟩)
      have H6 := Lib.hid (And.intro (row_up hr6 HB.out.size) (HB.out.trans (hb6.mono HB.out.size)))
      clear hr6 hb6 cB
      go_wp2
      go_ret2
      refine ⟨?_, H6.out.2⟩
      rw [if_pos HYES.out]
      refine ⟨v, rfl, ?_⟩
      unfold digV
      rw [HL.out]
      exact H6.out.1

end Go.Proofs.Ytljobojdcnhecaa
