/- Texts of this claim, one behind the other: IbJ, IbI, IbK. -/
import Derived.Test.YtljobojdcnhecaaFm16
import Derived.Test.YtljobojdcnhecaaFm14
import Derived.Test.YtljobojdcnhecaaFm13
import Derived.Test.YtljobojdcnhecaaShelf
import Derived.Sort.OwnSortedInts
set_option linter.unusedSimpArgs false
set_option linter.unusedVariables false
set_option maxRecDepth 100000
set_option maxHeartbeats 16000000
namespace Go.Proofs.Ytljobojdcnhecaa
/- Find: New, Copy. -/
open Go.RowKit Go.Maps Go.MapKept

def anyLong (L : List (List UInt8)) : Bool := L.any (fun l => decide (4096 < l.length))
theorem zero_index {w w1 : World} (hx : w1.heap[w.heap.size]? = some (.cells #[.slice none 0 0, .slice none 0 0, .map none] 58 (0, 0))) : XAt (fun b => b = w.heap.size) (fun _ => False) w1 w.heap.size [] :=
  ⟨_, _, _, hx, rfl, EntRow.nil _ _, fun b hb => (by cases hb), World.ownsRow_nil _ _ _ _, fun b hb => (by cases hb), Or.inl ⟨rfl, rfl⟩⟩
theorem xnew_any {R : Nat → Prop} {w : World} {L : List (List UInt8)} {a : Option Addr} {c : Nat} (hL : EntsR R w a L) (hn : L.length ≤ 4194304) :
    Calls Try.prog 5 #[.slice a L.length c] w fun e w' => (if anyLong L then e = .returned (.tuple #[.pointer none, .int .i64 3]) else ∃ bx F G, e = .returned (.tuple #[.pointer (some ⟨bx, 0, none⟩), .int .i64 0]) ∧ XAt F G w' bx L ∧ ∀ b, F b ∨ G b → w.heap.size ≤ b) ∧ Below w.heap.size w w' := by
  obtain ⟨w1, hw1, hb1, hz1, hx1⟩ := al1 w #[.slice none 0 0, .slice none 0 0, .map none] 58
  have hL1 := hL.kept (R' := fun b => b < w.heap.size) (Chg.of_below (O := fun _ => False) hb1) (fun _ _ _ h => h) (fun b h _ => h)
  have cA := add_any (c := c) (zero_index hx1) hL1 (fun b _ h e => by omega) (by simpa using hn)
  unfold addR at cA
  clear hL hL1 hx1
  unfold anyLong
  go_enter Try.func5, Try.ntmps5
  cases hl : L.any (fun l => decide (4096 < l.length)) with
  | true =>
    rw [hl] at cA
    go_wp2_with fail
    ((with_reducible refine cA.mono ?_); rintro _ w5 ⟨rfl, hX, hc⟩)
    have hb : Hid (Below w.heap.size w w5) := Chg.below_new hb1 hc (fun b e => by rw [e]; exact Nat.le_refl _)
    clear hX hc
    go_wp2
    go_ret2
    exact ⟨rfl, hb.out⟩
  | false =>
    rw [hl] at cA
    go_wp2_with fail
    ((with_reducible refine cA.mono ?_); rintro _ w5 ⟨rfl, hX, hc⟩)
    have hb : Hid (Below w.heap.size w w5) := Chg.below_new hb1 hc (fun b e => by rw [e]; exact Nat.le_refl _)
    have HX := Lib.hid hX
    clear hX hc
    go_wp2
    go_ret2
    refine ⟨?_, hb.out⟩
    refine ⟨w.heap.size, rfl, _, _, by simpa using HX.out, fun b hb => ?_⟩
    have h1 := hb1.size
    rcases hb with (hb | hb) | hb
    · omega
    · omega
    · omega

/- Find: Of, First of nothing; First, New, Copy. -/

theorem of_nil (w : World) (v : Value) : Calls Try.prog 21 #[.pointer none, v] w fun e w' => ∃ v, e = .returned v ∧ w'.ownsRow w.heap.size 3 1 v 0 [] ∧ Below w.heap.size w w' := by
  obtain ⟨w1, hw1, hb1, hz1, hx1⟩ := al1 w #[] 3
  have hr0 : w1.ownsRow w.heap.size 3 1 (.slice (some ⟨w.heap.size, 0, none⟩) 0 0) 0 [] := by rw [← hw1]; exact World.ownsRow_made (base := w.heap.size) w #[] 0 (Nat.le_refl _) (Nat.zero_le _) (by simp)
  go_enter Try.func21, Try.ntmps21
  go_wp2
  go_ret
  exact ⟨_, rfl, hr0, hb1⟩
/-- First's answer -/
def firstV (l : List Nat) : Value := .tuple #[.int .i64 ((l.headD 0 : Nat) : Int), .bool (!l.isEmpty)]
theorem first_row {w : World} {px v0 : Value} {l : List Nat} (hl : l.length ≤ 4194304)
    (cO : Calls Try.prog 21 #[px, v0] w fun e w' => ∃ v, e = .returned v ∧ w'.ownsRow w.heap.size 3 1 v l.length (l.map iv) ∧ Below w.heap.size w w') :
    Calls Try.prog 19 #[px, v0] w fun e w' => e = .returned (firstV l) ∧ Below w.heap.size w w' := by
  go_enter Try.func19, Try.ntmps19
  go_wp2_with fail
  ((with_reducible refine cO.mono ?_); rintro _ w5 ⟨v, rfl, hr, hb⟩)
  obtain ⟨a, c, rfl, hc, hn, hrow, -⟩ := row_slice2 hr
  cases l with
  | nil =>
    have HB := Lib.hid hb
    clear hr hrow hb
    go_wp2
    go_ret2
    exact ⟨rfl, HB.out⟩
  | cons n l =>
    obtain ⟨b, o, rfl, hcell⟩ := hrow (by simp)
    have q := hcell 0 (iv n) rfl
    unfold iv at q
    rw [Nat.add_zero] at q
    have HB := Lib.hid hb
    have j : (0 : Int) < ((n :: l).length : Int) := by simp
    clear hr hcell hb
    go_wp2
    go_ret2
    exact ⟨rfl, HB.out⟩
theorem first_nil (w : World) (v : Value) : Calls Try.prog 19 #[.pointer none, v] w fun e w' => e = .returned (firstV []) ∧ Below w.heap.size w w' := first_row (by simp) (of_nil w v)
theorem ofN_len (E : List (List UInt8)) (d : List UInt8) : (ofN E d).length ≤ E.length := by
  unfold ofN
  rw [List.length_map]
  exact Nat.le_trans (List.length_filter_le _ _) (by rw [List.length_zipIdx]; omega)
theorem xfirst_any {F G : Nat → Prop} {w : World} {bx : Nat} {E : List (List UInt8)} {ua : Option Addr} {uc : Nat} {d : List UInt8} (h : XAt F G w bx E) (hE : E.length ≤ 4194304) (hd : RowAt w ua (d.map bv)) (hdc : d.length ≤ uc) (hdn : ∀ x, ua = some x → d ≠ [] → x.block < w.heap.size) (hdl : d.length ≤ 1099511626000) :
    Calls Try.prog 19 #[.pointer (some ⟨bx, 0, none⟩), .slice ua d.length uc] w fun e w' => e = .returned (firstV (ofN E d)) ∧ Below w.heap.size w w' :=
  first_row (Nat.le_trans (ofN_len E d) hE) (of_any h hE hd hdc hdn hdl)

/- Find: slices.Sort of numbers; Bits. (printed by gen/bitsx.py) -/

def sortN (l : List Nat) : List Nat := l.mergeSort (fun x y => decide (x ≤ y))
theorem sortN_len (l : List Nat) : (sortN l).length = l.length := List.length_mergeSort l
theorem sortN_eq {l m : List Nat} (hp : l.Perm m) (hm : m.Pairwise (· < ·)) : sortN l = m := by
  have h1 : (sortN l).Pairwise (fun a b => a ≤ b) := by
    have := List.pairwise_mergeSort (le := fun x y : Nat => decide (x ≤ y)) (by simp; omega) (by simp; omega) l
    exact this.imp (fun h => by simpa using h)
  exact List.Perm.eq_of_pairwise (le := fun a b => a ≤ b) (fun a b _ _ h k => Nat.le_antisymm h k) h1 (hm.imp Nat.le_of_lt) ((List.mergeSort_perm l _).trans hp)
theorem sort_any {w : World} {lo g c : Nat} {l : List Nat} (h : w.ownsRow lo 3 1 (.slice (some ⟨g, 0, none⟩) l.length c) l.length (l.map iv)) (hn : l.length ≤ 4194304) :
    Calls Try.prog 34 #[.slice (some ⟨g, 0, none⟩) l.length c] w fun e w' => e = .returned (.tuple #[]) ∧ w'.ownsRow lo 3 1 (.slice (some ⟨g, 0, none⟩) l.length c) l.length ((sortN l).map iv) ∧ w.grownBy w' (some g) := by
  obtain ⟨zs, hzs⟩ : ∃ zs : List Int, l.map (fun n : Nat => (n : Int)) = zs := ⟨_, rfl⟩
  have hzl : zs.length = l.length := by rw [← hzs, List.length_map]
  have hiv : l.map iv = zs.map (Value.int .i64) := by rw [← hzs, List.map_map]; rfl
  have hs : (zs.mergeSort fun x y => decide (x ≤ y)).map (Value.int .i64) = (sortN l).map iv := by
    have := List.map_mergeSort (r := fun x y : Nat => decide (x ≤ y)) (s := fun x y : Int => decide (x ≤ y)) (f := fun n : Nat => (n : Int)) (l := l) (fun a _ b _ => by simp)
    rw [← hzs, ← this, List.map_map]
    rfl
  rcases h.2 with ⟨e, _⟩ | ⟨g', cap, cur, e, hlo, hg, h1, h2, h3, h4⟩
  · cases e
  · cases e
    rw [hiv, Nat.mul_one, ← hzl] at h4
    have hH := holds_of_blockI hg h4
    have := Any.slices_Sort_int Try.sortI g 0 c zs w hH (heap_lt hg) (by omega)
    rw [hzl] at this
    refine this.mono ?_
    rintro _ w' ⟨rfl, n, os, rfl⟩
    refine ⟨rfl, ?_, grownBy_sortedI _⟩
    rw [← hs, ← hzl]
    exact ownsRow_sortedI (List.length_mergeSort zs) hlo hg (by omega) h2 h3
/-- numbers in a row of the call's own -/
def RowS (w : World) (lo : Nat) (v : Value) (l : List Nat) : Prop := ∃ g c, v = .slice (some ⟨g, 0, none⟩) l.length c ∧ w.ownsRow lo 3 1 v l.length (l.map iv)
theorem row_some {w : World} {lo : Nat} {e : TypeId} {s n : Nat} {v : Value} {xs : List Value} (h : w.ownsRow lo e s v n xs) (hn : 0 < n) : ∃ g c, v = .slice (some ⟨g, 0, none⟩) n c := by
  rcases h.2 with ⟨_, e⟩ | ⟨g, cap, cur, e, _⟩
  · omega
  · exact ⟨g, cap, e⟩
theorem takeWhile_at {α : Type} {q : α → Bool} {D : List α} {k : Nat} (hk : k ≤ D.length) (h1 : ∀ p ∈ D.take k, q p = true) (h2 : ∀ p, D[k]? = some p → q p = false) : D.takeWhile q = D.take k := by
  induction D generalizing k with
  | nil => simp at hk; subst hk; rfl
  | cons a D ih =>
    cases k with
    | zero =>
      have := h2 a rfl
      rw [List.takeWhile_cons_of_neg (by simp [this])]
      rfl
    | succ k =>
      have ha := h1 a (by simp)
      rw [List.takeWhile_cons_of_pos ha, List.take_succ_cons, ih (by simpa using hk) (fun p hp => h1 p (by simp [hp])) (fun p hp => h2 p (by simpa using hp))]
theorem shr128 (r : Nat) (h : r < 8) : (128 : Int) / 2 ^ r = ((2 ^ (7 - r) : Nat) : Int) := by
  have : r = 0 ∨ r = 1 ∨ r = 2 ∨ r = 3 ∨ r = 4 ∨ r = 5 ∨ r = 6 ∨ r = 7 := by omega
  rcases this with rfl | rfl | rfl | rfl | rfl | rfl | rfl | rfl <;> rfl
theorem clrAt_map {l : List UInt8} (hl : l.length = 32) {i : Nat} (hi : i < 256) : (l.map bv).set (i / 8) (.int .u8 (((l.getD (i / 8) 0).toNat &&& (255 - 2 ^ (7 - i % 8)) : Nat) : Int)) = (clrAt l i).map bv := by
  unfold clrAt
  rw [List.map_set]
  congr 1
  unfold bv
  rw [UInt8.toNat_ofNat_of_lt' (clr_lt _ _ (UInt8.toNat_lt _))]
theorem bits_any {F G : Nat → Prop} {w : World} {bx : Nat} {E : List (List UInt8)} {h : List UInt8} {b : Nat} (hX : XAt F G w bx E) (hE : E.length ≤ 4194304) (hh : h.length = 32) (hb : b ≤ 256) :
    Calls Try.prog 16 #[.pointer (some ⟨bx, 0, none⟩), hashV h, .int .i64 (b : Int)] w fun e w' => ∃ v, e = .returned (.tuple #[v, .int .i64 0]) ∧ w'.ownsRow w.heap.size 3 1 v (bitsN (E.map leaf) h b).length ((bitsN (E.map leaf) h b).map iv) ∧ Below w.heap.size w w' := by
  have hmax : maxLen = 9223372036854775807 := rfl
  obtain ⟨i2, hi2, hv0, hv1, hv2⟩ := info_parts Try.info3
  obtain ⟨w1, hw1, hb1, hz1, hx1⟩ := al1 w (h.map bv).toArray 33
  obtain ⟨ve, vo, vm, hX⟩ := hX
  obtain ⟨H, hH⟩ : ∃ H, E.map leaf = H := ⟨_, rfl⟩
  have hH32 : Len32 H := by rw [← hH]; exact leafs_len E
  have hHl : H.length = E.length := by rw [← hH, List.length_map]
  rw [hH] at hX ⊢
  have c1 := ce1 hX.cell
  have hO := hX.order
  obtain ⟨oa, oc, rfl, hoc, hon, hor, -⟩ := row_slice2 hO
  rw [hHl] at hX c1 hoc
  have d1 : decide ((b : Int) < 0) = false := decide_eq_false (by omega)
  have d2 : decide ((256 : Int) < (b : Int)) = false := decide_eq_false (by omega)
  have HX := Lib.hid (And.intro hX (And.intro hH32 (And.intro hHl (And.intro hor (And.intro hon hh)))))
  have hbx : bx < w.heap.size := cell_lt c1
  clear hX hO hor hon hH32 hHl hh
  unfold hashV
  go_enter Try.func16, Try.ntmps16
  go_wp2
  go_loopw [8] (fun i wr => ∃ k : Nat, b + k ≤ 256 ∧ i = .int .i64 ((b + k : Nat) : Int) ∧ wr.heap[w.heap.size]? = some (.cells ((clrTo h b k).map bv).toArray 33 (0, 0)) ∧ Below w.heap.size w wr) (fun i _ => 256 - (RowKit.intOf i).toNat)
  case atStart => exact ⟨0, by omega, rfl, hx1, hb1⟩
  case round =>
    obtain ⟨k, hk, rfl, hg, hbw⟩ := hrel
    by_cases hlt : b + k < 256
    · obtain ⟨n, hn⟩ : ∃ n, b + k = n := ⟨_, rfl⟩
      obtain ⟨j, hj⟩ : ∃ j, n / 8 = j := ⟨_, rfl⟩
      obtain ⟨r, hr⟩ : ∃ r, n % 8 = r := ⟨_, rfl⟩
      rw [hn] at hlt ⊢
      have hd : (n : Int) / 8 = (j : Int) := by omega
      have hm : (n : Int) % 8 = (r : Int) := by omega
      have hd' : Int.tdiv (n : Int) 8 = (j : Int) := by rw [Int.tdiv_eq_ediv_of_nonneg (by omega)]; exact hd
      have hm' : Int.tmod (n : Int) 8 = (r : Int) := by rw [Int.tmod_eq_emod_of_nonneg (by omega)]; exact hm
      have hr8 : r < 8 := by omega
      have i1 : (0 : Int) ≤ (j : Int) := by omega
      have i2 : (j : Int) < 32 := by omega
      have hcl : (clrTo h b k).length = 32 := by rw [clrTo_len, HX.out.2.2.2.2.2]
      obtain ⟨a, ha⟩ : ∃ a : Nat, ((clrTo h b k).getD j 0).toNat = a := ⟨_, rfl⟩
      have ha256 : a < 256 := by rw [← ha]; exact UInt8.toNat_lt _
      have qa := cell_of_heap hg (i := j) (v := .int .u8 (a : Int)) (by
        rw [List.getElem?_toArray, List.getElem?_map, List.getElem?_eq_getElem (by omega : j < (clrTo h b k).length), ← ha]
        simp [bv, List.getD, List.getElem?_eq_getElem (by omega : j < (clrTo h b k).length)])
      have zqa := fz j hg
      have hwj : IntKind.i64.wrap (j : Int) = (j : Int) := by rw [Go.IntWalk.i64_in] <;> omega
      have hsh := shr128 r hr8
      have hp256 : 2 ^ (7 - r) < 256 := Nat.lt_of_le_of_lt (Nat.pow_le_pow_right (by omega) (by omega : 7 - r ≤ 7)) (by decide)
      obtain ⟨m, hmm⟩ : ∃ m, 2 ^ (7 - r) = m := ⟨_, rfl⟩
      rw [hmm] at hsh hp256
      have hcr : bits .andNot .u8 (a : Int) (m : Int) = ((a &&& (255 - m) : Nat) : Int) := u8_andNot_nat a m ha256 hp256
      obtain ⟨c, hc⟩ : ∃ c, a &&& (255 - m) = c := ⟨_, rfl⟩
      rw [hc] at hcr
      have hst := heap_set_cells (i := j) (.int .u8 (c : Int)) hg
      have hsm : ((clrTo h b k).map bv).toArray.setIfInBounds j (.int .u8 (c : Int)) = ((clrTo h b (k + 1)).map bv).toArray := by
        rw [List.setIfInBounds_toArray, clrTo, ← clrAt_map hcl (by omega), hn, hj, hr, ha, hmm, hc]
      rw [hsm] at hst
      have HS := Lib.hid hst
      have HB := Lib.hid hbw
      have HN := Lib.hid hn
      have HG := Lib.hid hg
      clear hsm hst hc hmm ha hcl hbw hn hj hr hg hp256
      go_upto_region 8 with fail
      refine wp_region_held_drew (S := fun _ => True) (by kernel_rfl) trivial (fun hHeld => ?_)
      refine tk 0 ?_ hHeld (fun w' hSw => ?_) ?_; rotate_left
      · (go_simp; all_goals (with_reducible rfl))
      (try simp only [Act.put, Zz])
      refine tk 1 ?_ hHeld (fun w' hSw => ?_) ?_; rotate_left
      · (go_simp; all_goals (with_reducible rfl))
      (try simp only [Act.put, Zz])
      refine tk 2 ?_ hHeld (fun w' hSw => ?_) ?_; rotate_left
      · (go_simp; all_goals (with_reducible rfl))
      (try simp only [Act.put, Zz])
      refine tk 4 ?_ hHeld (fun w' hSw => ?_) ?_; rotate_left
      · (go_simp; all_goals (with_reducible rfl))
      (try simp only [Act.put, Zz])
      refine tk 5 ?_ hHeld (fun w' hSw => ?_) ?_; rotate_left
      · (go_simp; all_goals (with_reducible rfl))
      (try simp only [Act.put, Zz])
      refine tk 6 ?_ hHeld (fun w' hSw => ?_) ?_; rotate_left
      · (go_simp; all_goals (with_reducible rfl))
      (try simp only [Act.put, Zz])
      refine wpAnyH_ready (rs := [3]) (by kernel_rfl) (by simp) ?_
      refine AllReadyH.cons rfl (fun K hK => ?_) AllReadyH.nil
      go_simp
      refine hK.out _ _ (trivial) (fun hHeld => ?_)
      clear hK K
      (try simp only [Act.put, Zz])
      refine tk 7 ?_ hHeld (fun w' hSw => ?_) ?_; rotate_left
      · (go_simp; all_goals (with_reducible rfl))
      (try simp only [Act.put, Zz])
      refine tk 8 ?_ hHeld (fun w' hSw => ?_) ?_; rotate_left
      · (go_simp; all_goals (with_reducible rfl))
      (try simp only [Act.put, Zz])
      refine wpAnyH_ready (rs := [9]) (by kernel_rfl) (by simp) ?_
      refine AllReadyH.cons rfl (fun K hK => ?_) AllReadyH.nil
      go_simp
      refine hK.out _ _ (trivial) (fun hHeld => ?_)
      clear hK K
      (try simp only [Act.put, Zz])
      refine wpAnyH_done (by kernel_rfl) ?_ _
      (try simp only [Act.put, Zz])
      clear hHeld
      go_wp2
      go_roundw
      case rel => exact ⟨k + 1, by have := HN.out; omega, by have := HN.out; simp; omega, HS.out, below_wdrew (Chg.below_new HB.out (Chg.set (O := fun x => x = w.heap.size) _ rfl) (fun b e => by rw [e]; exact Nat.le_refl _))⟩
      case measure => simp [RowKit.intOf]; omega
    · have ek : k = 256 - b := by omega
      subst ek
      obtain ⟨m, hm⟩ : ∃ m, clrTo h b (256 - b) = m := ⟨_, rfl⟩
      rw [hm] at hg
      have hm32 : m.length = 32 := by rw [← hm, clrTo_len, HX.out.2.2.2.2.2]
      have hperm := bits_is HX.out.2.1 HX.out.2.2.2.2.2 hb
      rw [hm] at hperm
      obtain ⟨w3, hw3, hb3, hz3, hx3⟩ := al1 wr #[] 3
      have hbw3 := hbw.trans (hb3.mono hbw.size)
      have hg3 := below_keep hb3 hg
      have hX3 := HX.out.1.below hbw3
      have c13 := ce1 hX3.cell
      have hO3 := hX3.order
      have hro : w3.ownsRow w.heap.size 3 1 (.slice (some ⟨wr.heap.size, 0, none⟩) 0 0) 0 [] := by rw [← hw3]; exact row_up (World.ownsRow_made (base := wr.heap.size) wr #[] 0 (Nat.le_refl _) (Nat.zero_le _) (by simp)) hbw.size
      rw [HX.out.2.2.1] at hO3
      have cA := fun W (hW : Below w3.heap.size w3 W) => at_any (w := W) (bx := bx) (O := ordN H) (h := m) (up_cell hW c13) (by rw [ordN_length, HX.out.2.2.1]; exact row_below hO3 hW) HX.out.2.1.ord (ordN_sorted H) hm32 (by rw [ordN_length, HX.out.2.2.1]; exact hE)
      obtain ⟨p0, hp0⟩ : ∃ p0, (ordN H).countP (fun p => decide (cmpB p.1 m < 0)) = p0 := ⟨_, rfl⟩
      rw [hp0] at cA
      have hp0n : p0 ≤ E.length := by rw [← hp0, ← HX.out.2.2.1, ← ordN_length H]; exact List.countP_le_length
      obtain ⟨D, hD⟩ : ∃ D, (ordN H).drop p0 = D := ⟨_, rfl⟩
      have hDl : D.length = E.length - p0 := by rw [← hD, List.length_drop, ordN_length, HX.out.2.2.1]
      have hD32 : Ok32 D := fun p hp => HX.out.2.1.ord p (List.mem_of_mem_drop (by rw [hD]; exact hp))
      have hgath : gath (ordN H) m b = (D.takeWhile fun p => decide (b ≤ shareN p.1 m)).map (·.2) := by unfold gath; rw [hp0, hD]
      have hfl := flat_fc HX.out.2.1.ord
      have hroD : RowAt w (subAtK oa oc p0 33) (D.flatMap fc) := by
        rw [← hD, ← (flat_take HX.out.2.1.ord p0).2]
        exact HX.out.2.2.2.1.dropK oc p0 33 (by rw [hfl, ordN_length]; rw [HX.out.2.2.1]; exact Nat.mul_le_mul_right _ hoc)
      have hsl := run_slice_loKA (P := Try.prog) 55 62 33 Try.underlying55 Try.sizeF oa E.length oc p0 hp0n
      rw [← hDl] at hsl
      obtain ⟨sa, hsa⟩ : ∃ sa, subAtK oa oc p0 33 = sa := ⟨_, rfl⟩
      obtain ⟨sc, hsc⟩ : ∃ sc, oc - p0 = sc := ⟨_, rfl⟩
      rw [hsa, hsc] at hsl
      rw [hsa] at hroD
      have HH := Lib.hid (And.intro hg3 (And.intro hbw3 (And.intro hroD (And.intro hgath (And.intro hperm (And.intro hD32 (And.intro hm32 hro)))))))
      have hDb : D.length ≤ 4194304 := by omega
      have HA := Lib.hid cA
      have hrg := range_heap hg3
      have hgl : w.heap.size < w3.heap.size := heap_lt hg3
      unfold hashV at cA
      clear hg hbw hg3 hbw3 hX3 hO3 hroD hgath hperm hD32 hm32 hro hfl hsa hsc hD hp0 hm hb3 hz3 hx3 HA hDl
      go_upto_region 10 with fail
      refine wp_region_held_drew (S := fun w' => w'.cell? ⟨bx, 1, none⟩ = some (.slice oa E.length oc) ∧ w'.rangeAt w.heap.size 0 (m.map bv)) (by kernel_rfl) ⟨c13, hrg⟩ (fun hHeld => ?_)
      refine tk 0 ?_ hHeld (fun w' hSw => ?_) ?_; rotate_left
      · (go_simp; all_goals (with_reducible rfl))
      (try simp only [Act.put, Zz])
      refine tk 1 ?_ hHeld (fun w' hSw => ?_) ?_; rotate_left
      · (go_simp; all_goals (with_reducible rfl))
      (try simp only [Act.put, Zz])
      refine tk 2 ?_ hHeld (fun w' hSw => ?_) ?_; rotate_left
      · (go_simp; all_goals (with_reducible rfl))
      (try simp only [Act.put, Zz])
      refine tk 3 ?_ hHeld (fun w' hSw => ?_) ?_; rotate_left
      · (have h1 := hSw.1; go_simp; all_goals (with_reducible rfl))
      (try simp only [Act.put, Zz])
      refine tk 4 ?_ hHeld (fun w' hSw => ?_) ?_; rotate_left
      · (go_simp; all_goals (with_reducible rfl))
      (try simp only [Act.put, Zz])
      refine wpAnyH_take (i := 5) rfl (by kernel_rfl) (by kernel_rfl) (by kernel_rfl) (fun _ _ _ h => h) (yieldsIf_load_mid (by rfl) 33 _ (by rfl) w.heap.size 0 (by first | rfl | (simp [Act.eval, Act.put, Addr.add]; done)) _ _ (fun w' h => h.2) Try.underlying33 rfl (by rw [List.length_map, HH.out.2.2.2.2.2.2.1]; kernel_rfl)) hHeld ?_
      (try simp only [Act.put, Zz])
      refine tk 9 ?_ hHeld (fun w' hSw => ?_) ?_; rotate_left
      · (go_simp; all_goals (with_reducible rfl))
      (try simp only [Act.put, Zz])
      refine wpAnyH_ready (rs := [6]) (by kernel_rfl) (by simp) ?_
      refine AllReadyH.cons rfl (fun K hK => ?_) AllReadyH.nil
      go_simp
      ((with_reducible refine (cA w3.drew (below_wdrew (Below.refl _ _))).mono ?_); rintro _ w5 ⟨rfl, hb5⟩)
      replace hb5 := drew_below hb5
      refine hK.out _ _ (⟨up_cell hb5 c13, range_up hb5 hrg⟩) (fun hHeld => ?_)
      clear hK K
      (try simp only [Act.put, Zz])
      refine tk 7 ?_ hHeld (fun w' hSw => ?_) ?_; rotate_left
      · (go_simp; all_goals (with_reducible rfl))
      (try simp only [Act.put, Zz])
      refine tk 8 ?_ hHeld (fun w' hSw => ?_) ?_; rotate_left
      · (go_simp; all_goals (with_reducible rfl))
      (try simp only [Act.put, Zz])
      refine wpAnyH_done (by kernel_rfl) ?_ _
      (try simp only [Act.put, Zz])
      clear hHeld
      have H5 := Lib.hid (And.intro (below_keep hb5 HH.out.1) (And.intro (HH.out.2.1.trans (hb5.mono HH.out.2.1.size)) (row_below HH.out.2.2.2.2.2.2.2 hb5)))
      clear cA hb5 hrg c13
      go_wp2
      go_loopw [9, 46] (fun v i wr => ∃ k : Nat, k ≤ D.length ∧ i = .int .i64 k ∧ Hid (RowS wr w.heap.size v ((D.take k).map (·.2))) ∧ Hid (∀ p ∈ D.take k, b ≤ shareN p.1 m) ∧ Hid (wr.heap[w.heap.size]? = some (.cells (m.map bv).toArray 33 (0, 0))) ∧ Below w.heap.size w wr) (fun _ i _ => D.length - (RowKit.intOf i).toNat)
      case atStart => exact ⟨0, by omega, rfl, ⟨_, _, rfl, H5.out.2.2⟩, (fun p hp => by simp at hp), H5.out.1, H5.out.2.1⟩
      case round =>
        obtain ⟨k, hk, rfl, HR, HT, HG, hbw⟩ := hrel
        obtain ⟨g, c, rfl, hrow⟩ := HR.out
        have hkl : ((D.take k).map (·.2)).length = k := by simp; omega
        rw [hkl] at hrow ⊢
        -- behind the loop: the numbers are sorted
        have fin : ∀ W : World, Below w.heap.size w W → W.ownsRow w.heap.size 3 1 (.slice (some ⟨g, 0, none⟩) k c) k (((D.take k).map (·.2)).map iv) → (∀ p, D[k]? = some p → ¬ b ≤ shareN p.1 m) → Calls Try.prog 34 #[.slice (some ⟨g, 0, none⟩) k c] W fun e w' => e = .returned (.tuple #[]) ∧ w'.ownsRow w.heap.size 3 1 (.slice (some ⟨g, 0, none⟩) k c) (bitsN H h b).length ((bitsN H h b).map iv) ∧ Below w.heap.size w w' := fun W hW hr hend => by
          have hs := sort_any (l := (D.take k).map (·.2)) (by rw [hkl]; exact hr) (by rw [hkl]; omega)
          rw [hkl] at hs
          refine hs.mono ?_
          rintro _ w' ⟨rfl, h1, h2⟩
          have htw : D.takeWhile (fun p => decide (b ≤ shareN p.1 m)) = D.take k := takeWhile_at hk (fun p hp => by simpa using HT.out p hp) (fun p hp => by simpa using hend p hp)
          have hbn : sortN ((D.take k).map (·.2)) = bitsN H h b := by
            refine sortN_eq ?_ (bitsN_sorted _ _ _)
            have := HH.out.2.2.2.2.1
            rw [HH.out.2.2.2.1, htw] at this
            exact this
          rw [hbn] at h1
          have hlen : (bitsN H h b).length = k := by rw [← hbn, sortN_len, hkl]
          refine ⟨rfl, by rw [hlen]; exact h1, hW.grown h2 hW.size (fun x hx => ?_)⟩
          cases hx
          exact (row_blk h1 rfl).1
        by_cases hlt : k < D.length
        · obtain ⟨p, hp⟩ : ∃ p, D[k]? = some p := ⟨_, List.getElem?_eq_getElem hlt⟩
          have hp32 := HH.out.2.2.2.2.2.1 p (List.mem_of_getElem? hp)
          obtain ⟨sb, so, rfl, hcell⟩ := (HH.out.2.2.1.below hbw) (by
            intro e
            have h1 := flat_fc HH.out.2.2.2.2.2.1
            rw [e] at h1
            simp at h1
            omega)
          have hrp : wr.rangeAt sb (so + k * 33) (fc p) := fun j v hj => by
            rw [Nat.add_assoc]
            exact hcell _ v (flat_at HH.out.2.2.2.2.2.1 hp j v hj)
          obtain ⟨w4, hw4, hb4, hz4, hx4⟩ := al1 wr (fc p).toArray 62
          have cS := share_any (w := w4) hp32 HH.out.2.2.2.2.2.2.1
          have hgm := below_keep hb4 HG.out
          have hfl : Hid ((fc p).length = 33) := fc_len hp32
          have hfz : Hid ((fc p).toArray.size = 33) := by show _ = _; rw [List.size_toArray, hfl.out]
          have hml : Hid (m.length = 32) := HH.out.2.2.2.2.2.2.1
          have hr1 := range_left (xs := p.1.map bv) (ys := [.int .i64 (p.2 : Int)]) (range_heap hx4)
          have hpl : Hid (p.1.length = 32) := hp32
          have q4 := cell_of_heap hx4 (i := 32) (v := .int .i64 (p.2 : Int)) (by rw [List.getElem?_toArray]; unfold fc; rw [List.getElem?_append_right (by simp [hp32]), List.length_map, hp32]; rfl)
          have hr4 := row_below hrow hb4
          have HRP := Lib.hid (And.intro hrp (And.intro hr1 (And.intro hgm hr4)))
          have hbw4 := hbw.trans (hb4.mono hbw.size)
          have HB4 := Lib.hid hbw4
          have j0 : (0 : Int) ≤ (k : Int) := by omega
          have j1 : (k : Int) < (D.length : Int) := by omega
          have HP := Lib.hid hp
          have FIN := Lib.hid fin
          unfold hashV at cS
          clear hcell hrp hx4 hgm hr1 hr4 hbw4 hp hp32 fin hrow hbw hz4
          go_wp2_with (first
            | (refine wpList_load_mid rfl 62 _ rfl sb (so + k * 33) (by rfl) _ _ HRP.out.1 Try.underlying62 rfl (by rw [hfl.out]; kernel_rfl) ?_)
            | (refine wpList_store_row rfl _ _ _ rfl wr.heap.size (fc p).toArray (by rfl) (by rfl) _ _ (World.alloc_heap_new wr _) (by rw [hfz.out]; kernel_rfl) (by rw [hfz.out]; rfl) (all_oneCell_toArray (fun v hv => fc_one (L := [p]) v (by simpa using hv))) ?_; rw [World.setRow_alloc_new, hw4])
            | (refine wpList_load_mid rfl 33 _ rfl wr.heap.size 0 (by rfl) _ _ HRP.out.2.1 Try.underlying33 rfl (by rw [List.length_map, hpl.out]; kernel_rfl) ?_)
            | (refine wpList_load_row rfl 33 _ rfl w.heap.size (by rfl) _ _ _ _ HRP.out.2.2.1 Try.underlying33 (by kernel_rfl) (by rw [List.size_toArray, List.length_map, hml.out]; kernel_rfl) ?_))
          ((with_reducible refine cS.mono ?_); rintro _ w5 ⟨rfl, hb5⟩)
          have q5 := up_cell hb5 q4
          have HB5 := Lib.hid (HB4.out.trans (hb5.mono HB4.out.size))
          have hr5 := row_below HRP.out.2.2.2 hb5
          have hg5 := below_keep hb5 HRP.out.2.2.1
          clear cS q4
          by_cases hsh : b ≤ shareN p.1 m
          · have dS : decide (((shareN p.1 m : Nat) : Int) < (b : Int)) = false := decide_eq_false (by omega)
            have dS2 : ¬ shareN p.1 m < b := by omega
            have dS3 : decide (shareN p.1 m < b) = false := decide_eq_false dS2
            obtain ⟨w6, hw6, hb6, hz6, hx6⟩ := al1 w5 #[.int .i64 (p.2 : Int)] 3
            have hr6 := row_below hr5 hb6
            have hg6 := below_keep hb6 hg5
            have HB6 := Lib.hid (HB5.out.trans (hb6.mono HB5.out.size))
            have HS := Lib.hid hsh
            have HG6 := Lib.hid hg6
            clear hsh hb5 hr5 hg5 hb6 hz6 hg6
            go_wp2_with (at_builtin; go_loud (refine wpList_append_anyK _ rfl (.tmp 56) (.tmp 59) 41 rfl w.heap.size 3 i2 (.int .i64 0) 1 8 Try.underlying41 hi2 hv0 hv1 hv2 rfl (by decide) _ k _ rfl hr6 (some ⟨w5.heap.size, 0, none⟩) 1 1 [iv p.2] rfl rfl (fun e => by cases e) (RowAt.of_row fun j u hu => by cases j with | zero => (simp at hu; subst hu; exact ce0 hx6) | succ j => simp at hu) iv_one1 (by omega) (by omega) HB6.out.size ?_; intro v8 w8 hr8 hg8))
            have hb8 : RowKit.Below w.heap.size w w8 := HB6.out.grown hg8 HB6.out.size (fun b hb => (hr6.lt b hb).1)
            have hg8' : w8.heap[w.heap.size]? = some (.cells (m.map bv).toArray 33 (0, 0)) := (hg8.block _ (heap_lt HG6.out) (fun e => row_ne hr6 e.symm HG6.out (by decide))).trans HG6.out
            obtain ⟨g8, c8, rfl⟩ := row_some hr8 (Nat.succ_pos _)
            have H8 := Lib.hid (And.intro hr8 (And.intro hg8' hb8))
            clear hr8 hb8 hg8 hg8' hr6 hx6
            go_wp2
            go_roundw
            case rel =>
              have e1 : (D.take (k + 1)) = D.take k ++ [p] := by rw [List.take_add_one, HP.out]; rfl
              have e2 : ((D.take (k + 1)).map (·.2)).length = k + 1 := by simp; omega
              refine ⟨k + 1, by omega, by go_num, ⟨g8, c8, by rw [e2], ?_⟩, fun q hq => ?_, H8.out.2.1, H8.out.2.2⟩
              · rw [e2, e1, List.map_append, List.map_append]
                exact H8.out.1
              · rw [e1] at hq
                rcases List.mem_append.1 hq with hq | hq
                · exact HT.out q hq
                · obtain rfl : q = p := by simpa using hq
                  exact HS.out
            case measure => simp [RowKit.intOf]; omega
          · have dS : decide (((shareN p.1 m : Nat) : Int) < (b : Int)) = true := decide_eq_true (by omega)
            have dS2 : shareN p.1 m < b := by omega
            have dS3 : decide (shareN p.1 m < b) = true := decide_eq_true dS2
            have cF := FIN.out w5 HB5.out hr5 (fun q hq => by rw [HP.out] at hq; cases hq; exact hsh)
            clear hsh hb5 hr5 hg5
            go_wp2_with fail
            ((with_reducible refine cF.mono ?_); rintro _ w6 ⟨rfl, hr6, hb6⟩)
            have H6 := Lib.hid (And.intro hr6 hb6)
            clear hr6 hb6
            go_wp2
            go_ret2
            exact ⟨_, rfl, H6.out⟩
        · have e : k = D.length := by omega
          subst e
          have cF := fin wr hbw hrow (fun p hp => by rw [List.getElem?_eq_none (by omega)] at hp; cases hp)
          clear fin hrow hbw
          go_wp2_with fail
          ((with_reducible refine cF.mono ?_); rintro _ w6 ⟨rfl, hr6, hb6⟩)
          have H6 := Lib.hid (And.intro hr6 hb6)
          clear hr6 hb6
          go_wp2
          go_ret2
          exact ⟨_, rfl, H6.out⟩

end Go.Proofs.Ytljobojdcnhecaa
