/- Texts of this claim, one behind the other: IbU, IbS. -/
import Derived.Test.YtljobojdcnhecaaFm14
set_option linter.unusedSimpArgs false
set_option linter.unusedVariables false
set_option maxRecDepth 1000000
set_option maxHeartbeats 8000000
namespace Go.Proofs.Ytljobojdcnhecaa
/- Find: the law's within. -/
open Go.RowKit Go.Maps Go.MapKept

def withinN (l m : List Nat) : Bool := l.all fun x => m.contains x
theorem contains_step (m : List Nat) (j x y : Nat) (hy : m[j]? = some y) : (m.take (j + 1)).contains x = ((m.take j).contains x || (x == y)) := by
  rw [List.take_add_one, hy, Option.toList_some, Bool.eq_iff_iff]
  simp
theorem within_any {w : World} {a b : Option Addr} {c d : Nat} {l m : List Nat} (hl : RowAt w a (l.map iv)) (hm : RowAt w b (m.map iv)) (hln : l.length ≤ 4611686018427387904) (hmn : m.length ≤ 4611686018427387904) :
    Calls Try.prog 29 #[.slice a l.length c, .slice b m.length d] w fun e w' => e = .returned (.bool (withinN l m)) ∧ ∃ q, w' = w.drewN q := by
  have HL := Lib.hid (And.intro hl hm)
  clear hl hm
  go_enter Try.func29, Try.ntmps29
  go_wp2
  go_loopw [5] (fun i wr => ∃ k : Nat, k ≤ l.length ∧ i = .int .i64 k ∧ Hid ((l.take k).all (fun x => m.contains x) = true) ∧ ∃ q, wr = w.drewN q) (fun i _ => l.length - (RowKit.intOf i).toNat)
  case atStart => exact ⟨0, by omega, rfl, by show _ = _; simp, 0, rfl⟩
  case round =>
    obtain ⟨k, hk, rfl, HT, q, rfl⟩ := hrel
    by_cases hlt : k < l.length
    · obtain ⟨x, hx⟩ : ∃ x, l[k]? = some x := ⟨_, List.getElem?_eq_getElem hlt⟩
      obtain ⟨b1, o1, rfl, h1⟩ := HL.out.1 (by intro e; have e' := List.map_eq_nil_iff.1 e; rw [e'] at hlt; simp at hlt)
      have q1 := h1 k (iv x) (by rw [List.getElem?_map, hx]; rfl)
      unfold iv at q1
      have j0 : (0 : Int) ≤ (k : Int) := by omega
      have j1 : (k : Int) < (l.length : Int) := by omega
      have HX := Lib.hid hx
      clear hx h1
      go_wp2
      go_loopw [6, 7] (fun t i wr => ∃ j : Nat, j ≤ m.length ∧ i = .int .i64 j ∧ t = .bool ((m.take j).contains x) ∧ ∃ q, wr = w.drewN q) (fun _ i _ => m.length - (RowKit.intOf i).toNat)
      case atStart => exact ⟨0, by omega, rfl, by simp, _, rfl⟩
      case round =>
        obtain ⟨j, hj, rfl, rfl, q2, rfl⟩ := hrel
        by_cases hjt : j < m.length
        · obtain ⟨y, hy⟩ : ∃ y, m[j]? = some y := ⟨_, List.getElem?_eq_getElem hjt⟩
          obtain ⟨b2, o2, rfl, h2⟩ := HL.out.2 (by intro e; have e' := List.map_eq_nil_iff.1 e; rw [e'] at hjt; simp at hjt)
          have q3 := h2 j (iv y) (by rw [List.getElem?_map, hy]; rfl)
          unfold iv at q3
          have j2 : (0 : Int) ≤ (j : Int) := by omega
          have j3 : (j : Int) < (m.length : Int) := by omega
          have hst := contains_step m j x y hy
          have HS := Lib.hid hst
          clear hy h2 hst
          obtain ⟨t, ht⟩ : ∃ t, (m.take j).contains x = t := ⟨_, rfl⟩
          have HT2 := Lib.hid ht
          rw [ht]
          clear ht
          cases t with
          | true =>
            go_wp2
            go_quiet (fail)
            go_wp2
            go_roundw
            case rel => exact ⟨j + 1, by omega, by go_num, by rw [HS.out, HT2.out]; rfl, _, by first | rfl | (simp only [World.drewN_drewN]; rfl)⟩
            case measure => simp [RowKit.intOf]; omega
          | false =>
            by_cases hxy : x = y
            · have g3 : ((x : Int) == (y : Int)) = true := by simp [hxy]
              have HXY := Lib.hid hxy
              clear hxy
              go_wp2
              go_quiet (fail)
              go_wp2
              go_roundw
              case rel => exact ⟨j + 1, by omega, by go_num, by rw [HS.out, HT2.out, HXY.out]; simp, _, by first | rfl | (simp only [World.drewN_drewN]; rfl)⟩
              case measure => simp [RowKit.intOf]; omega
            · have g3 : ((x : Int) == (y : Int)) = false := beq_eq_false_iff_ne.2 (by omega)
              have HXY : Hid ((x == y) = false) := beq_eq_false_iff_ne.2 hxy
              clear hxy
              go_wp2
              go_quiet (fail)
              go_wp2
              go_roundw
              case rel => exact ⟨j + 1, by omega, by go_num, by rw [HS.out, HT2.out, HXY.out]; rfl, _, by first | rfl | (simp only [World.drewN_drewN]; rfl)⟩
              case measure => simp [RowKit.intOf]; omega
        · have e : j = m.length := by omega
          subst e
          rw [List.take_length]
          obtain ⟨t, ht⟩ : ∃ t, m.contains x = t := ⟨_, rfl⟩
          have HT2 := Lib.hid ht
          rw [ht]
          clear ht
          cases t with
          | true =>
            go_wp2
            go_roundw
            case rel => exact ⟨k + 1, by omega, by go_num, Lib.hid (by rw [List.take_add_one, HX.out, Option.toList_some, List.all_append, HT.out]; simpa using HT2.out), _, by first | rfl | (simp only [World.drewN_drewN]; rfl)⟩
            case measure => simp [RowKit.intOf]; omega
          | false =>
            have hno : withinN l m = false := by
              unfold withinN
              rw [List.all_eq_false]
              exact ⟨x, List.mem_of_getElem? HX.out, by rw [HT2.out]; simp⟩
            have HNO := Lib.hid hno
            clear hno
            go_wp2
            go_ret
            exact ⟨by rw [HNO.out]; rfl, _, by first | rfl | (simp only [World.drewN_drewN]; rfl)⟩
    · have e : k = l.length := by omega
      subst e
      have hyes : withinN l m = true := by
        have := HT.out
        rw [List.take_length] at this
        exact this
      have HY := Lib.hid hyes
      clear hyes
      go_wp2
      go_ret
      exact ⟨by rw [HY.out]; rfl, _, by first | rfl | (simp only [World.drewN_drewN]; rfl)⟩

/- Find: the chapter's index: what its hashes are. -/
open Go.RowKit Go.Maps

theorem leafA : leaf [97] = [2, 42, 105, 121, 230, 218, 183, 170, 90, 228, 195, 229, 228, 95, 126, 151, 113, 18, 167, 230, 53, 147, 130, 13, 190, 193, 236, 115, 138, 36, 249, 60] := by decide +kernel
theorem leafB : leaf [98] = [87, 235, 53, 97, 93, 71, 243, 78, 199, 20, 202, 205, 245, 253, 116, 96, 138, 94, 142, 16, 39, 36, 232, 11, 36, 178, 135, 192, 194, 123, 106, 49] := by decide +kernel

end Go.Proofs.Ytljobojdcnhecaa
