/- Walks of the names layer: a kind's names by their numbers. -/
import Derived.Test.YtfoaoofaldiajaaNm6
import Derived.Maps.OwnOps
import Derived.Maps.OwnSet
import Derived.Test.YtfoaoofaldiajaaNmS
namespace Go.Proofs.Ytfoaoofaldiajaa
open Go.RowKit Go.Maps

/-- the map of a kind's numbers to places -/
def numMap (kind : Int) (L : List (List UInt8)) : Nat → DataW Unit
  | 0 => .map []
  | k + 1 => if ((parse (L.getD k [])).1 : Int) = kind then (numMap kind L k).put (.int .i64 ((parse (L.getD k [])).2 : Nat)) (.lit (.int .i64 k)) else numMap kind L k

theorem numOf_num (h : UInt8) (r : List UInt8) : (numOf h r).2 < 9223372036854775808 := by
  unfold numOf
  split
  · simp
  · split
    · split
      · assumption
      · simp
    · simp
theorem parse_num (l : List UInt8) : (parse l).2 < 9223372036854775808 := by
  unfold parse
  split
  · simp
  · split
    · simp
    · split
      · simp
      · split
        · exact numOf_num _ _
        · simp

set_option maxRecDepth 100000 in
set_option maxHeartbeats 400000 in
theorem of_bad (kind : Int) (sl : Value) (w : World) (h : kind ≤ 0 ∨ 4 < kind) :
    Calls Try.prog 22 #[.int .i64 kind, sl] w fun e w' => e = .returned (.tuple #[.slice none 0 0, .map (some w.heap.size)]) ∧ w' = w.alloc (.map #[] 0) := by
  have hmm := @run_makeMap Try.prog
  rcases h with h | h
  · go_enter Try.func22, Try.ntmps22
    go_wp2
    go_ret2
    exact ⟨rfl, rfl⟩
  · have h' : ¬ kind ≤ 0 := by omega
    go_enter Try.func22, Try.ntmps22
    go_wp2
    go_ret2
    exact ⟨rfl, rfl⟩

set_option maxRecDepth 100000 in
set_option maxHeartbeats 1000000 in
theorem of_good (kind : Int) (a : Option Addr) (cap : Nat) (L : List (List UInt8)) (w : World) (hk0 : 0 < kind) (hk1 : kind ≤ 4) (hL : L.length ≤ 1000000000) (hrow : RowAt w a (L.map sv)) :
    Calls Try.prog 22 #[.int .i64 kind, .slice a L.length cap] w fun e w' =>
      ∃ (v : Value) (ss : List Int), e = .returned (.tuple #[v, .map (some w.heap.size)]) ∧ ss.Perm (intKeys (numMap kind L L.length)) ∧ w'.ownsRow (w.heap.size + 1) 2 1 v ss.length ((ss.mergeSort (fun x y => decide (x ≤ y))).map (Value.int .i64)) ∧
        w'.ownsMap Try.prog 2 (plainElem Try.prog 3) w.heap.size L.length (numMap kind L L.length) ∧ (v = .slice none 0 0 ↔ ss = []) ∧ Below w.heap.size w w' := by
  have hmm := @run_makeMap Try.prog
  have q1 : decide (kind ≤ 0) = false := by simpa using hk0
  have q2 : decide (4 < kind) = false := by simpa using hk1
  go_enter Try.func22, Try.ntmps22
  go_wp2
  go_loopw [21] (fun i wr => ∃ k : Nat, k ≤ L.length ∧ i = .int .i64 k ∧ wr.ownsMap Try.prog 2 (plainElem Try.prog 3) w.heap.size k (numMap kind L k) ∧ Below w.heap.size w wr) (fun i _ => L.length - (RowKit.intOf i).toNat)
  case atStart => exact ⟨0, by omega, rfl, World.ownsMap_made _ _ _ _, (Below.refl _ _).alloc (Nat.le_refl _) _⟩
  case round =>
    obtain ⟨k, hk, rfl, hown, hb⟩ := hrel
    have hsz := hb.size
    by_cases hlt : k < L.length
    · obtain ⟨b, off, rfl, hc⟩ := RowAt.at_ (hrow.below hb) (k := k) (by simpa using hlt)
      simp only [List.getElem_map, sv] at hc
      have hP := Parse_any L[k]
      have hpn := parse_num L[k]
      have hgd : L.getD k [] = L[k] := by simp [List.getD, hlt]
      have hstep : numMap kind L (k + 1) = if ((parse L[k]).1 : Int) = kind then (numMap kind L k).put (.int .i64 ((parse L[k]).2 : Nat)) (.lit (.int .i64 k)) else numMap kind L k := by
        rw [numMap, hgd]
      generalize L[k] = l at hc hP hpn hstep
      generalize parse l = p at hP hpn hstep
      have HS := Lib.hid hstep; clear hstep hgd
      by_cases heq : (p.1 : Int) = kind
      · have hbq : ((p.1 : Int) == kind) = true := by simpa using heq
        have HE := Lib.hid heq; clear heq
        go_wp2_with (first | (go_at_call 17; refine (hP _).mono ?_; rintro e w1 ⟨rfl, hb1⟩; have hown1 := hown.kept (row := none) (Below.grownBy hb1) (by simp); have hsz1 := hb1.size) | (at_mapUpdate; refine wpList_mapUpdate_own _ rfl _ _ _ 52 rfl 2 3 (Maps.int_keyed Try.underlying2) Try.underlying52 _ w.heap.size k _ rfl hown1 (by unfold maxLen; omega) _ _ _ rfl rfl (Maps.keyOf_int_mk Try.underlying2 (wf_i64 (by omega) (by omega))) _ [] (plainElem_int Try.underlying3 (wf_i64 (by omega) (by omega))) ?_; intro w2 hown2 hgrow2))
        go_roundw
        case rel => exact ⟨k + 1, by omega, by go_num, by rw [HS.out, if_pos HE.out]; exact hown2, (hb.trans (hb1.mono hsz)).grown hgrow2 (by omega) (fun j e => by cases e; exact Nat.le_refl _)⟩
        case measure => simp [RowKit.intOf]; omega
      · have hbq : ((p.1 : Int) == kind) = false := by simpa using heq
        have HE := Lib.hid heq; clear heq
        go_wp2_with (first | (go_at_call 17; refine (hP _).mono ?_; rintro e w1 ⟨rfl, hb1⟩; have hown1 := hown.kept (row := none) (Below.grownBy hb1) (by simp); have hsz1 := hb1.size))
        go_roundw
        case rel => exact ⟨k + 1, by omega, by go_num, by rw [HS.out, if_neg HE.out]; exact hown1.mono (by omega), hb.trans (hb1.mono hsz)⟩
        case measure => simp [RowKit.intOf]; omega
    · obtain rfl : k = L.length := by omega
      have hle := hown.size_le
      have hbl := hown.lt
      have hsort := Sorted_any w.heap.size L.length _ _ wr hown (by omega)
      generalize hD : numMap kind L L.length = D at *
      have HD := Lib.hid hD; clear hD
      by_cases hz : Maps.size D = 0
      · have hq : ((Maps.size D : Int) == 0) = true := by simpa using hz
        have HZ := Lib.hid hz; clear hz
        go_wp2_with (at_len; refine wpList_len_own _ rfl _ _ rfl 2 3 Try.underlying52 _ w.heap.size L.length _ rfl hown ?_)
        go_ret2
        have hk0 : intKeys D = [] := by
          obtain ⟨es, rfl⟩ := hown.isMap
          obtain rfl : es = [] := List.length_eq_zero_iff.1 HZ.out
          rfl
        have e := HD.out; subst e
        exact ⟨.slice none 0 0, [], rfl, by rw [hk0], by simpa using World.ownsRow_nil wr (w.heap.size + 1) 2 1, hown, by simp, hb⟩
      · have hq : ((Maps.size D : Int) == 0) = false := by simpa using hz
        have HZ := Lib.hid hz; clear hz
        go_wp2_with (first | (at_len; refine wpList_len_own _ rfl _ _ rfl 2 3 Try.underlying52 _ w.heap.size L.length _ rfl hown ?_) | (go_at_call 36; refine (Keys_any _ _).mono ?_; rintro e w1 ⟨rfl, rfl⟩) | (go_at_call 35; refine hsort.mono ?_; rintro e w2 ⟨v, ss, rfl, hperm, hown2, hnil, hb2⟩))
        go_ret2
        have hb3 : Below wr.heap.size wr w2 := ((Below.refl _ _).alloc (Nat.le_refl _) _).trans (hb2.mono (by omega))
        have e := HD.out; subst e
        exact ⟨v, ss, rfl, hperm, ownsRow_base_le hown2 (by omega), hown.kept (row := none) (Below.grownBy hb3) (by simp), hnil, hb.trans (hb3.mono hsz)⟩

end Go.Proofs.Ytfoaoofaldiajaa
