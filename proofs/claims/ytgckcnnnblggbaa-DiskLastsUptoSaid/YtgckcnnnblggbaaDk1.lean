/- Disk: may a text be a name? By the program and by the reference. -/
import Derived.Test.YtgckcnnnblggbaaRows
import Derived.Test.YtgckcnnnblggbaaQuiet
namespace Go.Proofs.Ytgckcnnnblggbaa
open Go.RowKit

def ChOk (c : UInt8) : Prop := (97 ≤ c.toNat ∧ c.toNat ≤ 122) ∨ (48 ≤ c.toNat ∧ c.toNat ≤ 57) ∨ c.toNat = 46 ∨ c.toNat = 45
/-- MAY A TEXT BE A NAME? -/
def NameOk (l : List UInt8) : Prop := 0 < l.length ∧ l.length ≤ 64 ∧ ∀ c ∈ l, ChOk c
open Classical in
noncomputable def nameOk (l : List UInt8) : Bool := decide (NameOk l)
theorem nameOk_true {l : List UInt8} (h : NameOk l) : true = nameOk l := by simp [nameOk, h]
theorem nameOk_false {l : List UInt8} (h : ¬ NameOk l) : false = nameOk l := by simp [nameOk, h]

theorem nameOk_len {l : List UInt8} (h0 : 0 < l.length) (h : ∀ c ∈ l, ChOk c) : decide ((l.length : Int) ≤ 64) = nameOk l := by
  by_cases h1 : l.length ≤ 64
  · rw [← nameOk_true ⟨h0, h1, h⟩]; simp; omega
  · rw [← nameOk_false (fun hN => h1 hN.2.1)]; simp; omega
theorem run_idx_var {P : Program} (t : TypeId) (ht : P.underlying t = some .string) (l : List UInt8) (k : Nat) (hk : k < l.length) : ∀ w, (Instr.index t (.string ⟨l.toArray⟩) (.int .i64 k)).run P w = Result.ok (.int .u8 (l[k].toNat : Int)) w :=
  fun w => run_index_str t ht l k hk w

set_option maxHeartbeats 1000000 in
theorem Name_any (l : List UInt8) (w : World) (hl : l.length ≤ 9223372036854775807) :
    Calls Try.prog 7 #[.string ⟨l.toArray⟩] w fun e w' => e = .returned (.bool (nameOk l)) ∧ w = w' := by
  have hn : ∀ b : Bool, b = nameOk l → Ending.returned (.bool b) = .returned (.bool (nameOk l)) := fun b h => by rw [h]
  have HN := Lib.hid hn; clear hn
  go_enter Try.func7, Try.ntmps7
  go_wp2
  go_loop [7] (fun i => ∃ k : Nat, k ≤ l.length ∧ i = .int .i64 k ∧ Hid (∀ j (hj : j < l.length), j < k → ChOk l[j])) (fun i => l.length - (intOf i).toNat)
  case atStart => exact ⟨0, by omega, rfl, fun j hj h => by omega⟩
  case round =>
    obtain ⟨k, hk, rfl, HA⟩ := hrel
    by_cases hlt : k < l.length
    · have hi := run_idx_var 9 Try.underlying9 l k hlt
      have hsn : ChOk l[k] → Hid (∀ j (hj : j < l.length), j < k + 1 → ChOk l[j]) := fun h j hj hjk => by
        by_cases e : j = k
        · subst e; exact h
        · exact HA.out j hj (by omega)
      have hno : ¬ ChOk l[k] → ¬ NameOk l := fun h hN => h (hN.2.2 _ (List.getElem_mem hlt))
      have HS := Lib.hid hsn; clear hsn
      have HNO := Lib.hid hno; clear hno
      have hc : ChOk l[k] ∨ ¬ ChOk l[k] := Classical.em _
      have HC := Lib.hid hc; clear hc
      generalize l[k] = c at hi HS HNO HC
      go_wp2
      all_goals first
        | (go_round
           case rel => exact ⟨k + 1, by omega, by go_num, HS.out (by unfold ChOk; grind)⟩
           case measure => simp [intOf]; omega)
        | (go_ret
           exact ⟨HN.out _ (nameOk_false (HNO.out (by unfold ChOk; grind))), rfl⟩)
    · obtain rfl : k = l.length := by omega
      have HL : ∀ c ∈ l, ChOk c := fun c hc => by
        obtain ⟨j, hj, rfl⟩ := List.getElem_of_mem hc
        exact HA.out j hj hj
      have HL2 := Lib.hid HL; clear HL
      go_wp2
      all_goals
        go_ret
        first
          | exact ⟨HN.out _ (nameOk_len (by omega) HL2.out), rfl⟩
          | exact ⟨HN.out _ (nameOk_true ⟨by omega, by omega, HL2.out⟩), rfl⟩
          | exact ⟨HN.out _ (nameOk_false fun h => by have := h.1; have := h.2.1; omega), rfl⟩

set_option maxHeartbeats 1000000 in
theorem rName_any (l : List UInt8) (w : World) (hl : l.length ≤ 9223372036854775807) :
    Calls Try.prog 8 #[.string ⟨l.toArray⟩] w fun e w' => e = .returned (.bool (nameOk l)) ∧ w = w' := by
  have hn : ∀ b : Bool, b = nameOk l → Ending.returned (.bool b) = .returned (.bool (nameOk l)) := fun b h => by rw [h]
  have HN := Lib.hid hn; clear hn
  by_cases hlen : 0 < l.length ∧ l.length ≤ 64
  · obtain ⟨h1, h2⟩ := hlen
    have q1 : decide ((l.length : Int) < 1) = false := by simp; omega
    have q2 : decide ((64 : Int) < l.length) = false := by simp; omega
    go_enter Try.func8, Try.ntmps8
    go_wp2
    go_loop [3] (fun i => ∃ k : Nat, k ≤ l.length ∧ i = .int .i64 k ∧ Hid (∀ j (hj : j < l.length), j < k → ChOk l[j])) (fun i => l.length - (intOf i).toNat)
    case atStart => exact ⟨0, by omega, rfl, fun j hj h => by omega⟩
    case round =>
      obtain ⟨k, hk, rfl, HA⟩ := hrel
      by_cases hlt : k < l.length
      · have hi := run_idx_var 9 Try.underlying9 l k hlt
        have hsn : ChOk l[k] → Hid (∀ j (hj : j < l.length), j < k + 1 → ChOk l[j]) := fun h j hj hjk => by
          by_cases e : j = k
          · subst e; exact h
          · exact HA.out j hj (by omega)
        have hno : ¬ ChOk l[k] → ¬ NameOk l := fun h hN => h (hN.2.2 _ (List.getElem_mem hlt))
        have HS := Lib.hid hsn; clear hsn
        have HNO := Lib.hid hno; clear hno
        generalize l[k] = c at hi HS HNO
        go_wp2
        all_goals first
          | (go_round
             case rel => exact ⟨k + 1, by omega, by go_num, HS.out (by unfold ChOk; grind)⟩
             case measure => simp [intOf]; omega)
          | (go_ret
             exact ⟨HN.out _ (nameOk_false (HNO.out (by unfold ChOk; grind))), rfl⟩)
      · obtain rfl : k = l.length := by omega
        have HL : ∀ c ∈ l, ChOk c := fun c hc => by
          obtain ⟨j, hj, rfl⟩ := List.getElem_of_mem hc
          exact HA.out j hj hj
        have HL2 := Lib.hid HL; clear HL
        go_wp2
        go_ret
        exact ⟨HN.out _ (nameOk_true ⟨h1, h2, HL2.out⟩), rfl⟩
  · have hno : ¬ NameOk l := fun h => hlen ⟨h.1, h.2.1⟩
    have HNO := Lib.hid hno; clear hno
    go_enter Try.func8, Try.ntmps8
    go_wp2
    all_goals first
      | (go_ret; exact ⟨HN.out _ (nameOk_false HNO.out), rfl⟩)
      | (exfalso; omega)

end Go.Proofs.Ytgckcnnnblggbaa
