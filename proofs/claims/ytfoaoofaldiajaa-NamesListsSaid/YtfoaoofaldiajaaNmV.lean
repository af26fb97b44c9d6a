/- Walks of the names layer: two equal lists; the reference's Name. -/
import Derived.Test.YtfoaoofaldiajaaNmN
import Derived.Deep.QuietTactic
import Derived.BigQuiet
namespace Go.Proofs.Ytfoaoofaldiajaa
open Go.RowKit Go.Maps

set_option maxHeartbeats 400000 in
theorem sameNumbers_any (a b : Option Addr) (ca cb : Nat) (ns : List Int) (w : World) (hL : ns.length ≤ 1000000000) (ha : RowAt w a (ns.map (Value.int .i64))) (hb : RowAt w b (ns.map (Value.int .i64))) :
    Calls Try.prog 11 #[.slice a ns.length ca, .slice b ns.length cb] w fun e w' => e = .returned (.bool true) ∧ Below w.heap.size w w' := by
  have q1 : ((ns.length : Int) != (ns.length : Int)) = false := by simp
  go_enter Try.func11, Try.ntmps11
  go_wp2
  go_loopw [5] (fun i wr => ∃ k : Nat, k ≤ ns.length ∧ i = .int .i64 k ∧ Below w.heap.size w wr) (fun i _ => ns.length - (intOf i).toNat)
  case atStart => exact ⟨0, by omega, rfl, Below.refl _ _⟩
  case round =>
    obtain ⟨k, hk, rfl, hbl⟩ := hrel
    by_cases hlt : k < ns.length
    · obtain ⟨ba, oa, rfl, hca⟩ := (ha.below hbl).at_ (k := k) (by simpa using hlt)
      obtain ⟨bb, ob, rfl, hcb⟩ := (hb.below hbl).at_ (k := k) (by simpa using hlt)
      simp only [List.getElem_map] at hca hcb
      generalize ns[k] = x at hca hcb
      have hq : (x != x) = false := by simp
      have hi0 : (0 : Int) ≤ (k : Int) := by omega
      have hi1 : (k : Int) < (ns.length : Int) := by omega
      go_wp2
      go_quiet (fail)
      go_wp2
      go_roundw
      case rel => exact ⟨k + 1, by omega, by go_num, below_drewN hbl _⟩
      case measure => simp [intOf]; omega
    · go_wp2
      go_ret
      exact ⟨rfl, hbl⟩

theorem rName_any (kind : Int) (n : Nat) (w : World) (hn : (n : Int) ≤ 9223372036854775807) :
    Calls Try.prog 12 #[.int .i64 kind, .int .i64 n] w fun e w' => e = .returned (.string ⟨(refNameL kind n).toArray⟩) ∧ Below w.heap.size w w' := by
  unfold refNameL
  by_cases h1 : kind = 1
  · have q1 : (kind == 1) = true := by simp [h1]
    have c := rname_any 106 n
    rw [if_pos h1]; clear h1
    go_enter Try.func12, Try.ntmps12
    go_wp2_with (go_at_call 25; refine (c _ hn).mono ?_; rintro e w1 ⟨rfl, hb1⟩)
    go_ret
    exact ⟨rfl, hb1⟩
  · have q1 : (kind == 1) = false := by simp [h1]
    rw [if_neg h1]; clear h1
    by_cases h2 : kind = 2
    · have q2 : (kind == 2) = true := by simp [h2]
      have c := rname_any 115 n
      rw [if_pos h2]; clear h2
      go_enter Try.func12, Try.ntmps12
      go_wp2_with (go_at_call 25; refine (c _ hn).mono ?_; rintro e w1 ⟨rfl, hb1⟩)
      go_ret
      exact ⟨rfl, hb1⟩
    · have q2 : (kind == 2) = false := by simp [h2]
      rw [if_neg h2]; clear h2
      by_cases h3 : kind = 3
      · have q3 : (kind == 3) = true := by simp [h3]
        rw [if_pos h3]; clear h3
        go_enter Try.func12, Try.ntmps12
        go_wp2
        go_ret
        exact ⟨rfl, Below.refl _ _⟩
      · have q3 : (kind == 3) = false := by simp [h3]
        rw [if_neg h3]; clear h3
        go_enter Try.func12, Try.ntmps12
        go_wp2
        go_ret
        exact ⟨rfl, Below.refl _ _⟩

end Go.Proofs.Ytfoaoofaldiajaa
