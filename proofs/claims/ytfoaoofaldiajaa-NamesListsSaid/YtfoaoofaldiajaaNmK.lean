/- Walk of the names law's 'known': two names, there and back. -/
import Derived.Test.YtfoaoofaldiajaaNmR
namespace Go.Proofs.Ytfoaoofaldiajaa
open Go.RowKit Go.Maps

def j5 : List UInt8 := [106, 48, 48, 48, 48, 48, 48, 48, 48, 48, 48, 48, 48, 48, 48, 48, 53]
def j1 : List UInt8 := [106, 48, 48, 48, 48, 48, 48, 48, 48, 48, 48, 48, 48, 48, 48, 48, 49]
def s255 : List UInt8 := [115, 48, 48, 48, 48, 48, 48, 48, 48, 48, 48, 48, 48, 48, 48, 102, 102]
theorem nameAns_j5 : nameAns 106 5 = .tuple #[.string ⟨j5.toArray⟩, .int .i64 0] := by
  have : nameL 106 5 16 = j5 := by decide +kernel
  simp [nameAns, this]
theorem nameAns_s255 : nameAns 115 255 = .tuple #[.string ⟨s255.toArray⟩, .int .i64 0] := by
  have : nameL 115 255 16 = s255 := by decide +kernel
  simp [nameAns, this]
theorem parse_s255 : parse s255 = (2, 255) := by decide +kernel
theorem isNums_known : IsNums 1 [j5, [120], j1, j5] [1, 5] := by
  have e1 : parse j5 = (1, 5) := by decide +kernel
  have e2 : parse [120] = (0, 0) := by decide +kernel
  have e3 : parse j1 = (1, 1) := by decide +kernel
  refine ⟨by simp, fun x => ?_⟩
  simp only [List.mem_cons, List.not_mem_nil, or_false, exists_eq_or_imp, exists_eq_left, e1, e2, e3]
  simp
  omega

set_option maxRecDepth 100000 in
set_option maxHeartbeats 1000000 in
theorem known_any (w : World) : Calls Try.prog 6 #[] w fun e w' => e = .returned (.bool true) ∧ Below w.heap.size w w' := by
  have cJ := fun w => Journal_any 5 w (by omega)
  have cS := fun w => Segment_any 255 w (by omega)
  have cP := Parse_any s255
  rw [parse_s255] at cP
  simp only [nameAns_j5, nameAns_s255] at cJ cS
  have k1 := Kind_any pointL
  have k2 := Kind_any otherL
  have e1 : parse pointL = (3, 0) := by decide +kernel
  have e2 : parse otherL = (4, 0) := by decide +kernel
  rw [e1] at k1
  rw [e2] at k2
  clear e1 e2
  have cN := fun g (w : World) => Numbers_any 1 (some ⟨g, 0, none⟩) 4 [j5, [120], j1, j5] w (by simp)
  simp only [j5, j1, s255, pointL, otherL] at cJ cS cP cN k1 k2
  go_enter Try.func6, Try.ntmps6
  go_wp2_with fail
  refine (cJ _).mono ?_
  rintro e w1 ⟨rfl, hb1⟩
  clear cJ
  go_wp2_with fail
  refine (cS _).mono ?_
  rintro e w2 ⟨rfl, hb2⟩
  clear cS
  go_wp2_with fail
  refine (cP _).mono ?_
  rintro e w3 ⟨rfl, hb3⟩
  clear cP
  go_wp2_with fail
  refine (cN w3.heap.size _ ?_).mono ?_
  · intro _
    refine ⟨_, 0, rfl, fun j u hu => ?_⟩
    rw [Nat.zero_add]
    refine cell_new _ _ _ _ _ ?_
    match j, hu with
    | 0, hu => exact hu
    | 1, hu => exact hu
    | 2, hu => exact hu
    | 3, hu => exact hu
  rintro e w4 ⟨v, ns, rfl, hns, hrow, hb4⟩
  clear cN
  obtain rfl : ns = [1, 5] := hns.unique isNums_known
  clear hns
  obtain ⟨g, cap, rfl⟩ := ownsRow_succ hrow
  have hc0 := hrow.cells (g := g) rfl 0 _ rfl
  have hc1 := hrow.cells (g := g) rfl 1 _ rfl
  rw [addr_add] at hc0 hc1
  have z1 := hb1.size
  have z2 := hb2.size
  have z3 := hb3.size
  have z4 := hb4.size
  rw [World.size_alloc] at z4
  go_wp2_with fail
  refine (k1 _).mono ?_
  rintro e w5 ⟨rfl, hb5⟩
  clear k1
  go_wp2_with fail
  refine (k2 _).mono ?_
  rintro e w6 ⟨rfl, hb6⟩
  clear k2
  have z5 := hb5.size
  go_wp2
  go_ret
  exact ⟨rfl, ((((hb1.trans (hb2.mono z1)).trans (hb3.mono (by omega))).alloc (by omega) _).trans (hb4.mono (by rw [World.size_alloc]; omega))).trans ((hb5.trans (hb6.mono z5)).mono (by omega))⟩

end Go.Proofs.Ytfoaoofaldiajaa
