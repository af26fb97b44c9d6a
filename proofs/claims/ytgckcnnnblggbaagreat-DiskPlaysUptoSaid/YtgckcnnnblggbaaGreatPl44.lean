/- Texts of this claim, one behind the other: RfE. -/
import Derived.Test.YtgckcnnnblggbaaGreatPl43
set_option linter.unusedSimpArgs false
set_option linter.unusedVariables false
/- leftFiles: lent files are as they were. (printed by gen/leftf.py) -/
namespace Go.Proofs.YtgckcnnnblggbaaGreat
open Go.RowKit Go.Maps

set_option maxRecDepth 100000 in
set_option maxHeartbeats 8000000 in
theorem leftFiles_any {w : World} {lo g c c2 : Nat} {b : Option Addr} {bs : List (Nat × Nat)} {L : List (List UInt8 × List UInt8)} (h : LentFiles w lo g c L bs) (hA : FilesArg w b L) (hLn : L.length ≤ maxList) (hsz : ∀ p ∈ L, p.2.length ≤ 70368744177664) :
    Calls Tryz.prog 24 #[.slice (some ⟨g, 0, none⟩) L.length c, .slice b L.length c2] w fun e w' => e = .returned (.bool true) ∧ Below w.heap.size w w' := by
  have hmax : maxLen = 9223372036854775807 := rfl
  have hmx : maxList = 4194304 := rfl
  have hcap := h.cap
  have H := Lib.hid h
  have HA := Lib.hid hA
  have HSZ := Lib.hid hsz
  clear h hA hsz
  go_enter Tryz.func24, Tryz.ntmps24
  go_wp2
  go_loopw [5] (fun i wr => ∃ k : Nat, k ≤ L.length ∧ i = .int .i64 k ∧ Below w.heap.size w wr) (fun i _ => L.length - (RowKit.intOf i).toNat)
  case atStart => exact ⟨0, by omega, rfl, Below.refl _ _⟩
  case round =>
    obtain ⟨k, hk, rfl, hb⟩ := hrel
    have hsz := hb.size
    by_cases hlt : k < L.length
    · obtain ⟨d, hd⟩ : ∃ d, L[k]? = some d := ⟨L[k]'hlt, by simp⟩
      obtain ⟨xb, xo, rfl, hcs⟩ := HA.out (fun e => by rw [e] at hlt; simp at hlt)
      obtain ⟨_, ua, uc, hu0, hnil, hru⟩ := hcs k d hd
      have hdl := HSZ.out d (List.mem_of_getElem? hd)
      have hcnt := H.out.lent.count
      obtain ⟨x, hx⟩ : ∃ x, bs[k]? = some x := ⟨bs[k]'(by omega), by simp⟩
      obtain ⟨_, hm0⟩ := H.out.cells k d x hd hx
      have q0 := (hb.cell (p := ⟨g, k * 2 + 1, none⟩) (cell_lt hm0)).trans hm0
      have q1 := (hb.cell (p := ⟨xb, xo + k * 2 + 1, none⟩) (cell_lt hu0)).trans hu0
      have j0 : (0 : Int) ≤ (k : Int) := by omega
      have j1 : (k : Int) < (L.length : Int) := by omega
      have hlw : Lent wr.drew lo x.1 x.2 d.2 := by
        have h1 := (H.out.lent.file k d x hd hx).1
        unfold Lent at h1 ⊢
        exact (Chg.of_below (O := fun _ => False) (hb.drew)).row h1 (fun _ _ h => h)
      have hlf := left_any hlw (hru.below (w' := wr.drew) hb.drew) (d := uc) hdl
      have HCS := Lib.hid hcs
      clear hd hru hcs hx hlw
      go_wp2
      have hS0 := And.intro q0 q1
      refine wp_region_held_drew (S := fun w' => w'.cell? ⟨g, k * 2 + 1, none⟩ = some (.slice (some ⟨x.1, 0, none⟩) d.2.length x.2) ∧ w'.cell? ⟨xb, xo + k * 2 + 1, none⟩ = some (.slice ua d.2.length uc)) (by kernel_rfl) (hS0) (fun hHeld => ?_)
      refine wpAnyH_take (i := 0) (v := ?_) rfl (by kernel_rfl) (by kernel_rfl) (by kernel_rfl) (fun _ _ _ h => h) (Or.inl ⟨by rfl, ?_⟩) hHeld ?_
      rotate_left
      · intro w hSw; (try dsimp only at hSw); go_simp
        all_goals (with_reducible rfl)
      (try simp only [Act.put, List.setIfInBounds_toArray, List.set_cons_zero, List.set_cons_succ])
      refine wpAnyH_take (i := 1) (v := ?_) rfl (by kernel_rfl) (by kernel_rfl) (by kernel_rfl) (fun _ _ _ h => h) (Or.inl ⟨by rfl, ?_⟩) hHeld ?_
      rotate_left
      · intro w hSw; (try dsimp only at hSw); go_simp
        all_goals (with_reducible rfl)
      (try simp only [Act.put, List.setIfInBounds_toArray, List.set_cons_zero, List.set_cons_succ])
      refine wpAnyH_take (i := 2) (v := ?_) rfl (by kernel_rfl) (by kernel_rfl) (by kernel_rfl) (fun _ _ _ h => h) (Or.inl ⟨by rfl, ?_⟩) hHeld ?_
      rotate_left
      · intro w hSw; (try dsimp only at hSw); go_simp
        all_goals (with_reducible rfl)
      (try simp only [Act.put, List.setIfInBounds_toArray, List.set_cons_zero, List.set_cons_succ])
      refine wpAnyH_take (i := 3) (v := ?_) rfl (by kernel_rfl) (by kernel_rfl) (by kernel_rfl) (fun _ _ _ h => h) (Or.inl ⟨by rfl, ?_⟩) hHeld ?_
      rotate_left
      · intro w hSw; (try dsimp only at hSw); go_simp
        all_goals (with_reducible rfl)
      (try simp only [Act.put, List.setIfInBounds_toArray, List.set_cons_zero, List.set_cons_succ])
      refine wpAnyH_take (i := 4) (v := ?_) rfl (by kernel_rfl) (by kernel_rfl) (by kernel_rfl) (fun _ _ _ h => h) (Or.inl ⟨by rfl, ?_⟩) hHeld ?_
      rotate_left
      · intro w hSw; (try dsimp only at hSw); go_simp
        all_goals (with_reducible rfl)
      (try simp only [Act.put, List.setIfInBounds_toArray, List.set_cons_zero, List.set_cons_succ])
      refine wpAnyH_take (i := 5) (v := ?_) rfl (by kernel_rfl) (by kernel_rfl) (by kernel_rfl) (fun _ _ _ h => h) (Or.inl ⟨by rfl, ?_⟩) hHeld ?_
      rotate_left
      · intro w hSw; (try dsimp only at hSw); go_simp
        all_goals (with_reducible rfl)
      (try simp only [Act.put, List.setIfInBounds_toArray, List.set_cons_zero, List.set_cons_succ])
      refine wpAnyH_take (i := 6) (v := ?_) rfl (by kernel_rfl) (by kernel_rfl) (by kernel_rfl) (fun _ _ _ h => h) (Or.inl ⟨by rfl, ?_⟩) hHeld ?_
      rotate_left
      · intro w hSw; (try dsimp only at hSw); go_simp
        all_goals (with_reducible rfl)
      (try simp only [Act.put, List.setIfInBounds_toArray, List.set_cons_zero, List.set_cons_succ])
      refine wpAnyH_take (i := 7) (v := ?_) rfl (by kernel_rfl) (by kernel_rfl) (by kernel_rfl) (fun _ _ _ h => h) (Or.inl ⟨by rfl, ?_⟩) hHeld ?_
      rotate_left
      · intro w hSw; (try dsimp only at hSw); go_simp
        all_goals (with_reducible rfl)
      (try simp only [Act.put, List.setIfInBounds_toArray, List.set_cons_zero, List.set_cons_succ])
      refine wpAnyH_take (i := 8) (v := ?_) rfl (by kernel_rfl) (by kernel_rfl) (by kernel_rfl) (fun _ _ _ h => h) (Or.inl ⟨by rfl, ?_⟩) hHeld ?_
      rotate_left
      · intro w hSw; (try dsimp only at hSw); go_simp
        all_goals (with_reducible rfl)
      (try simp only [Act.put, List.setIfInBounds_toArray, List.set_cons_zero, List.set_cons_succ])
      refine wpAnyH_take (i := 9) (v := ?_) rfl (by kernel_rfl) (by kernel_rfl) (by kernel_rfl) (fun _ _ _ h => h) (Or.inl ⟨by rfl, ?_⟩) hHeld ?_
      rotate_left
      · intro w hSw; (try dsimp only at hSw); go_simp
        all_goals (with_reducible rfl)
      (try simp only [Act.put, List.setIfInBounds_toArray, List.set_cons_zero, List.set_cons_succ])
      refine wpAnyH_ready (rs := [10]) (by kernel_rfl) (by simp) ?_
      refine AllReadyH.cons rfl (fun K hK => ?_) AllReadyH.nil
      go_simp
      go_wp2_with (first | (go_at_call 39; refine hlf.mono ?_; rintro _ w2 ⟨rfl, rfl⟩))
      refine hK.out _ _ (hS0) (fun hHeld => ?_)
      clear hK K
      (try simp only [Act.put, List.setIfInBounds_toArray, List.set_cons_zero, List.set_cons_succ])
      refine wpAnyH_take (i := 11) (v := ?_) rfl (by kernel_rfl) (by kernel_rfl) (by kernel_rfl) (fun _ _ _ h => h) (Or.inl ⟨by rfl, ?_⟩) hHeld ?_
      rotate_left
      · intro w hSw; (try dsimp only at hSw); go_simp
        all_goals (with_reducible rfl)
      (try simp only [Act.put, List.setIfInBounds_toArray, List.set_cons_zero, List.set_cons_succ])
      refine wpAnyH_done (by kernel_rfl) ?_ _
      clear hHeld
      go_wp2
      go_roundw
      case rel => exact ⟨k + 1, by omega, by go_num, hb.drew⟩
      case measure => simp [RowKit.intOf]; omega
    · obtain rfl : k = L.length := by omega
      have j1 : ¬ (L.length : Int) < (L.length : Int) := by omega
      have hS := SameFiles_any (w := wr) (c := c) (d := c2) (H.out.below hb).arg.rd (HA.out.below hb).rd (by omega)
      rw [show (L == L) = true by simp] at hS
      have hm0 := H.out.room
      have q0 := (hb.cell (p := ⟨g, L.length * 2, none⟩) (cell_lt hm0)).trans hm0
      unfold sv room at q0
      have hsl := run_slice_hiK (P := Tryz.prog) 22 56 2 Tryz.underlying22 Tryz.sizeOf56' (some ⟨g, 0, none⟩) L.length c (L.length + 1) hcap
      have e1 : IntKind.i64.wrap ((L.length : Int) + 1) = ((L.length + 1 : Nat) : Int) := (Go.IntWalk.i64_in _ (by omega)).trans (by omega)
      have j2 : (0 : Int) ≤ (L.length : Int) := by omega
      have j3 : (L.length : Int) < ((L.length + 1 : Nat) : Int) := by omega
      go_wp2_with (first | (go_at_call 13; refine hS.mono ?_; rintro _ w3 ⟨rfl, hb3⟩; have q3 := (hb3.cell (p := ⟨g, L.length * 2, none⟩) (cell_lt q0)).trans q0))
      go_ret
      exact ⟨rfl, hb.trans (hb3.mono hsz)⟩

end Go.Proofs.YtgckcnnnblggbaaGreat
