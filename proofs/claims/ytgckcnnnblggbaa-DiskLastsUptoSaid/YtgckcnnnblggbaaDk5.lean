/- Disk: what the closures of the names' steps do. -/
import Derived.Test.YtgckcnnnblggbaaDk4
namespace Go.Proofs.Ytgckcnnnblggbaa
open Go.RowKit Go.Maps

/-! ### a map's size is what it reads as -/
theorem ownsMap_tight {w : World} {P : Program} {k : TypeId} {R : Value → Option (DataW Unit × List MemPlace)} {b n : Nat} {D : DataW Unit} (h : w.ownsMap P k R b n D) : w.ownsMap P k R b (size D) D := by
  obtain ⟨es, c, hb, F, hs, hD⟩ := h
  refine ⟨es, c, hb, F, ?_, hD⟩
  rw [hD, size_eq, length_sorted]; simp
theorem names_tight {w : World} {P : Program} {k : TypeId} {R : Value → Option (DataW Unit × List MemPlace)} {b n : Nat} {l : NL} (h : w.ownsMap P k R b n (nameD l)) : w.ownsMap P k R b l.length (nameD l) := by
  have := ownsMap_tight h
  rwa [nameD_size] at this
theorem nlDel_le (l : NL) (k : List UInt8) : (nlDel l k).length ≤ l.length := List.length_filter_le _ _
theorem nlIns_len (x : List UInt8 × Nat) : ∀ l : NL, (nlIns x l).length = l.length + 1
  | [] => rfl
  | y :: r => by unfold nlIns; split; rfl; simp [nlIns_len x r]
theorem nlPut_le (l : NL) (k : List UInt8) (n : Nat) : (nlPut l k n).length ≤ l.length + 1 := by
  unfold nlPut; rw [nlIns_len]; have := nlDel_le l k; omega
theorem doStep_le (l : NL) (x : NStep) : (doStep l x).length ≤ l.length + 1 := by
  cases x with
  | create k n => exact nlPut_le l k n
  | rename f t =>
    simp only [doStep]
    split
    · rename_i n _
      have := nlPut_le (nlDel l f) t n; have := nlDel_le l f; omega
    · omega
  | remove k => have := nlDel_le l k; simp only [doStep]; omega

/-- WHAT A STEP's CLOSURE DOES TO NAMES -/
def DoesStep (v : Value) (x : NStep) (b : Nat) (l : NL) (w : World) : Prop :=
  ∃ N caps, v = .func (.func N) #[] caps ∧ (∀ args w, (callFunc N args).run Try.prog w = .ok (.enter N args) w) ∧
    Calls Try.prog N (#[.map (some b)] ++ caps) w fun e w' => e = .returned (.tuple #[]) ∧ w'.ownsMap Try.prog 9 (plainElem Try.prog 3) b (doStep l x).length (nameD (doStep l x)) ∧ w.grownBy w' (some b)

def enters (N : FuncId) : Prop := ∀ args w, (callFunc N args).run Try.prog w = .ok (.enter N args) w
theorem enters_create : enters 46 := fun args w => by go_simp
theorem enters_rename : enters 61 := fun args w => by go_simp
theorem enters_remove : enters 41 := fun args w => by go_simp

set_option maxHeartbeats 1000000 in
theorem create_does {w : World} {R : Nat → Prop} {b : Nat} {l : NL} {k : List UInt8} {n : Nat} {v : Value} (hv : StepIn w R v (.create k n)) (hm : w.ownsMap Try.prog 9 (plainElem Try.prog 3) b l.length (nameD l)) (hk : k.length ≤ maxLen) (hn : n < 9223372036854775808) (hl : l.length < maxLen) : DoesStep v (.create k n) b l w := by
  obtain ⟨x, y, rfl, ⟨b1, rfl, _, c1⟩, ⟨b2, rfl, _, c2⟩⟩ := hv
  refine ⟨_, _, rfl, enters_create, ?_⟩
  unfold sv at c2
  go_enter Try.func46, Try.ntmps46
  go_wp2_with (at_mapUpdate; refine wpList_mapUpdate_in _ rfl _ _ _ 61 rfl 9 3 (string_keyed Try.underlying9) Try.underlying61 (plainElem Try.prog 3) b l.length (nameD l) rfl hm hl _ _ (.string k) rfl rfl (key_str hk) (.lit (.int .i64 (n : Int))) [] (elem_int hn) ?_)
  intro w1 hm1 ht1
  rw [nameD_put] at hm1
  go_wp2
  go_end0
  exact ⟨rfl, names_tight hm1, ht1.grown⟩

set_option maxHeartbeats 1000000 in
theorem remove_does {w : World} {R : Nat → Prop} {b : Nat} {l : NL} {k : List UInt8} {v : Value} (hv : StepIn w R v (.remove k)) (hm : w.ownsMap Try.prog 9 (plainElem Try.prog 3) b l.length (nameD l)) (hk : k.length ≤ maxLen) : DoesStep v (.remove k) b l w := by
  obtain ⟨x, rfl, ⟨b1, rfl, _, c1⟩⟩ := hv
  refine ⟨_, _, rfl, enters_remove, ?_⟩
  unfold sv at c1
  go_enter Try.func41, Try.ntmps41
  go_wp2_with (at_delete; refine wpList_delete_own _ rfl _ _ 61 9 rfl 3 (string_keyed Try.underlying9) Try.underlying61 (plainElem Try.prog 3) b l.length (nameD l) rfl hm _ (.string k) rfl (key_str hk) ?_)
  intro w1 hm1 ht1
  rw [nameD_del] at hm1
  go_wp2
  go_end0
  exact ⟨rfl, names_tight hm1, ht1.grown⟩

set_option maxHeartbeats 1000000 in
theorem rename_does {w : World} {R : Nat → Prop} {b : Nat} {l : NL} {k t : List UInt8} {v : Value} (hv : StepIn w R v (.rename k t)) (hR : ¬ R b) (hm : w.ownsMap Try.prog 9 (plainElem Try.prog 3) b l.length (nameD l)) (hk : k.length ≤ maxLen) (ht : t.length ≤ maxLen) (hl : l.length < maxLen)
    (hn : ∀ p ∈ l, p.2 < 9223372036854775808) : DoesStep v (.rename k t) b l w := by
  obtain ⟨x, y, rfl, ⟨b1, rfl, r1, c1⟩, ⟨b2, rfl, r2, c2⟩⟩ := hv
  refine ⟨_, _, rfl, enters_rename, ?_⟩
  unfold sv at c1 c2
  have hlk := look_name hm hk
  have n1 : b1 ≠ b := fun e => hR (e ▸ r1)
  have n2 : b2 ≠ b := fun e => hR (e ▸ r2)
  cases hf : nlFind l k with
  | none =>
    rw [hf] at hlk
    simp only [Option.getD_none, Option.isSome_none] at hlk
    have hd : doStep l (.rename k t) = l := by simp only [doStep, hf]
    rw [hd]
    have hD := Lib.hid hd; clear hd
    go_enter Try.func61, Try.ntmps61
    go_wp2
    go_end0
    exact ⟨rfl, hm, ⟨rfl, rfl, rfl, Nat.le_refl _, fun _ _ _ => rfl⟩⟩
  | some n =>
    rw [hf] at hlk
    simp only [Option.getD_some, Option.isSome_some] at hlk
    have hd : doStep l (.rename k t) = nlPut (nlDel l k) t n := by simp only [doStep, hf]
    have hnn : n < 9223372036854775808 := by
      unfold nlFind at hf
      obtain ⟨p, hp, rfl⟩ := Option.map_eq_some_iff.1 hf
      exact hn p (List.mem_of_find?_eq_some hp)
    have hdl := nlDel_le l k
    rw [hd]
    have hD := Lib.hid hd; clear hd hf
    go_enter Try.func61, Try.ntmps61
    go_wp2_with (at_delete; refine wpList_delete_own _ rfl _ _ 61 9 rfl 3 (string_keyed Try.underlying9) Try.underlying61 (plainElem Try.prog 3) b l.length (nameD l) rfl hm _ (.string k) rfl (key_str hk) ?_)
    intro w1 hm1 ht1
    rw [nameD_del] at hm1
    have hm1 := names_tight hm1
    have hg1 := ht1.grown
    have c2' := (Chg.turned (O := (· = b)) ht1 rfl).cell c2 n2
    clear hlk hm c1 c2
    go_wp2_with (at_mapUpdate; refine wpList_mapUpdate_in _ rfl _ _ _ 61 rfl 9 3 (string_keyed Try.underlying9) Try.underlying61 (plainElem Try.prog 3) b (nlDel l k).length (nameD (nlDel l k)) rfl hm1 (by omega) _ _ (.string t) rfl rfl (key_str ht) (.lit (.int .i64 (n : Int))) [] (elem_int hnn) ?_)
    intro w2 hm2 ht2
    rw [nameD_put] at hm2
    go_wp2
    go_end0
    exact ⟨rfl, names_tight hm2, (ht1.trans ht2).grown⟩

end Go.Proofs.Ytgckcnnnblggbaa
