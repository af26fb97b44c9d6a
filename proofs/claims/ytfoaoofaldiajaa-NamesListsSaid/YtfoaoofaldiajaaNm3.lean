/- Walks of the names layer: the order of names, by the program. -/
import Derived.Test.YtfoaoofaldiajaaNm2
import Derived.Lib.Bytealg
import Derived.Outline
namespace Go.Proofs.Ytfoaoofaldiajaa
open Go.RowKit

def cmpI (a b : Int) : Int := if a < b then -1 else if b < a then 1 else 0
theorem cmpI_lt {a b : Int} (h : a < b) : -1 = cmpI a b := by unfold cmpI; rw [if_pos h]
theorem cmpI_gt {a b : Int} (h : b < a) : 1 = cmpI a b := by unfold cmpI; rw [if_neg (by omega), if_pos h]
theorem cmpI_eq {a b : Int} (h : a = b) : 0 = cmpI a b := by unfold cmpI; rw [if_neg (by omega), if_neg (by omega)]
def or3 (a b c : Int) : Int := if a ≠ 0 then a else if b ≠ 0 then b else c
def rankK (k : Nat) : Nat := if k = 0 then 5 else k
def compareL (a b : List UInt8) : Int := or3 (cmpI (rankK (parse a).1) (rankK (parse b).1)) (cmpI (parse a).2 (parse b).2) (Lib.compareBytes a b)

theorem rank_any (k : Nat) (w : World) : Calls Try.prog 31 #[.int .i64 k] w fun e w' => e = .returned (.int .i64 (rankK k)) ∧ w = w' := by
  unfold rankK
  by_cases h : k = 0
  · subst h
    go_enter Try.func31, Try.ntmps31
    go_wp2
    go_ret
    exact ⟨rfl, rfl⟩
  · have hb : ((k : Int) == 0) = false := by simpa using h
    rw [if_neg h]; clear h
    go_enter Try.func31, Try.ntmps31
    go_wp2
    go_ret
    exact ⟨rfl, rfl⟩

theorem Kind_any (l : List UInt8) (w : World) : Calls Try.prog 19 #[.string ⟨l.toArray⟩] w fun e w' => e = .returned (.int .i64 (parse l).1) ∧ Below w.heap.size w w' := by
  go_enter Try.func19, Try.ntmps19
  go_wp2_with (go_at_call 17; refine (Parse_any l _).mono ?_; rintro e w' ⟨rfl, hb⟩)
  go_ret
  exact ⟨rfl, hb⟩

theorem nan1_any (k : Int) (w : World) : Calls Try.prog 38 #[.int .i64 k] w fun e w' => e = .returned (.bool false) ∧ w = w' := by
  go_enter Try.func38, Try.ntmps38
  go_wp2
  go_ret
  exact ⟨by simp, rfl⟩
theorem nan2_any (k : Int) (w : World) : Calls Try.prog 39 #[.int .i64 k] w fun e w' => e = .returned (.bool false) ∧ w = w' := by
  go_enter Try.func39, Try.ntmps39
  go_wp2
  go_ret
  exact ⟨by simp, rfl⟩

theorem cmp1_any (a b : Int) (w : World) : Calls Try.prog 30 #[.int .i64 a, .int .i64 b] w fun e w' => e = .returned (.int .i64 (cmpI a b)) ∧ w = w' := by
  go_enter Try.func30, Try.ntmps30
  go_wp2_with (go_at_call 38; refine (nan1_any _ _).mono ?_; rintro e w' ⟨rfl, rfl⟩)
  all_goals go_ret
  · exact ⟨ret_int (cmpI_lt (by assumption)), rfl⟩
  · exact ⟨ret_int (cmpI_gt (by assumption)), rfl⟩
  · exact ⟨ret_int (cmpI_eq (by omega)), rfl⟩
theorem cmp2_any (a b : Int) (w : World) : Calls Try.prog 32 #[.int .i64 a, .int .i64 b] w fun e w' => e = .returned (.int .i64 (cmpI a b)) ∧ w = w' := by
  go_enter Try.func32, Try.ntmps32
  go_wp2_with (go_at_call 39; refine (nan2_any _ _).mono ?_; rintro e w' ⟨rfl, rfl⟩)
  all_goals go_ret
  · exact ⟨ret_int (cmpI_lt (by assumption)), rfl⟩
  · exact ⟨ret_int (cmpI_gt (by assumption)), rfl⟩
  · exact ⟨ret_int (cmpI_eq (by omega)), rfl⟩

theorem cmpstr_run (a b : List UInt8) (w : World) :
    (callFunc 45 #[.string ⟨a.toArray⟩, .string ⟨b.toArray⟩]).run Try.prog w = .ok (.value (.int .i64 (Lib.compareBytes a b))) w := by
  rw [run_callFunc_extern Try.func45 (by kernel_rfl) (by kernel_rfl) (by kernel_rfl) (e := Extern.BytealgCompare.compare) (by kernel_rfl), Lib.run_compareString]
  rfl
theorem strCompare_any (a b : List UInt8) (w : World) : Calls Try.prog 33 #[.string ⟨a.toArray⟩, .string ⟨b.toArray⟩] w fun e w' => e = .returned (.int .i64 (Lib.compareBytes a b)) ∧ w = w' := by
  have hx := cmpstr_run a b
  go_enter Try.func33, Try.ntmps33
  go_wp2
  go_ret
  exact ⟨rfl, rfl⟩

set_option maxHeartbeats 400000 in
theorem or3_any (a b c : Int) (g : Nat) (w : World) (h0 : w.cell? ⟨g, 0, none⟩ = some (.int .i64 a)) (h1 : w.cell? ⟨g, 1, none⟩ = some (.int .i64 b)) (h2 : w.cell? ⟨g, 2, none⟩ = some (.int .i64 c)) :
    Calls Try.prog 29 #[.slice (some ⟨g, 0, none⟩) 3 3] w fun e w' => e = .returned (.int .i64 (or3 a b c)) ∧ w = w' := by
  have hz : ∀ x : Int, (x = 0 ∧ (x != 0) = false) ∨ (x ≠ 0 ∧ (x != 0) = true) := fun x => by by_cases h : x = 0 <;> simp [h]
  rcases hz a with ⟨e1, b1⟩ | ⟨e1, b1⟩
  · rcases hz b with ⟨e2, b2⟩ | ⟨e2, b2⟩
    · rcases hz c with ⟨e3, b3⟩ | ⟨e3, b3⟩
      all_goals
        have E := Lib.hid (And.intro e1 (And.intro e2 e3)); clear e1 e2 e3
        go_enter Try.func29, Try.ntmps29
        go_wp2
        refine wp_loop_rounds 4 ?_
        rw [rounds_succ]
        go_wp2
        rw [rounds_succ]
        go_wp2
        rw [rounds_succ]
        go_wp2
        try (rw [rounds_succ]; go_wp2)
        go_ret
        exact ⟨by simp [or3, E.out], rfl⟩
    · have E := Lib.hid (And.intro e1 e2); clear e1 e2
      go_enter Try.func29, Try.ntmps29
      go_wp2
      refine wp_loop_rounds 4 ?_
      rw [rounds_succ]
      go_wp2
      rw [rounds_succ]
      go_wp2
      go_ret
      exact ⟨by simp [or3, E.out], rfl⟩
  · have E := Lib.hid e1; clear e1
    go_enter Try.func29, Try.ntmps29
    go_wp2
    refine wp_loop_rounds 4 ?_
    rw [rounds_succ]
    go_wp2
    go_ret
    exact ⟨by simp [or3, E.out], rfl⟩

set_option maxHeartbeats 400000 in
theorem Compare_any (a b : List UInt8) (w : World) : Calls Try.prog 20 #[.string ⟨a.toArray⟩, .string ⟨b.toArray⟩] w fun e w' => e = .returned (.int .i64 (compareL a b)) ∧ Below w.heap.size w w' := by
  unfold compareL
  generalize hk : parse a = p
  generalize hl : parse b = q
  have p1 := Parse_any a
  have p2 := Parse_any b
  rw [hk] at p1
  rw [hl] at p2
  clear hk hl
  go_enter Try.func20, Try.ntmps20
  go_wp2_with fail
  refine (p1 _).mono ?_
  rintro e w1 ⟨rfl, hb1⟩
  clear p1
  go_wp2_with fail
  refine (p2 _).mono ?_
  rintro e w2 ⟨rfl, hb2⟩
  clear p2
  have h1 := hb1.size
  have h2 := hb2.size
  go_wp2_with (first | (go_at_call 31; refine (rank_any _ _).mono ?_; rintro e w' ⟨rfl, rfl⟩) | (go_at_call 30; refine (cmp1_any _ _ _).mono ?_; rintro e w' ⟨rfl, rfl⟩) | (go_at_call 32; refine (cmp2_any _ _ _).mono ?_; rintro e w' ⟨rfl, rfl⟩) | (go_at_call 33; refine (strCompare_any _ _ _).mono ?_; rintro e w' ⟨rfl, rfl⟩))
  refine (or3_any _ _ _ w2.heap.size _ (cell_new _ _ _ _ _ rfl) (cell_new _ _ _ _ _ rfl) (cell_new _ _ _ _ _ rfl)).mono ?_
  rintro e w' ⟨rfl, rfl⟩
  go_wp2
  go_ret
  exact ⟨rfl, (hb1.trans (hb2.mono h1)).alloc (by omega) _⟩

end Go.Proofs.Ytfoaoofaldiajaa
