/- Texts of this claim, one behind the other: SgJ, SgK, SgL. -/
import Derived.Test.YtlmdpcaikhdenaaGreatSl06
import Derived.Test.YtlmdpcaikhdenaaGreatSl05
import Derived.Test.YtlmdpcaikhdenaaGreatSl04
set_option linter.unusedSimpArgs false
set_option linter.unusedVariables false
/- Entry: may, Take. -/
namespace Go.Proofs.YtlmdpcaikhdenaaGreat
open Go.RowKit Go.Maps

set_option maxHeartbeats 1000000 in
theorem newReader_any {w : World} {a : Option Addr} {c : Nat} {l : List UInt8} (hrow : RowAt w a (l.map bv)) (hnil : a = none → c = 0) (hl : l.length ≤ 140737488355328) :
    Calls Tryz.prog 78 #[.slice a l.length c] w fun e w' => ∃ p a' c', e = .returned (.pointer (some ⟨p, 0, none⟩)) ∧ RdAt w' p a' c' l 0 ∧ w.heap.size ≤ p ∧ Below w.heap.size w w' := by
  have hC := clone_any a c l w hnil hrow hl
  go_enter Tryz.func78, Tryz.ntmps78
  go_wp2_with (go_at_call 70; refine hC.mono ?_; rintro _ w2 ⟨U, rfl, hU, hb2⟩; obtain ⟨ua, uc, rfl, _⟩ := hU.row)
  go_ret
  have hs := hb2.size
  obtain ⟨a', c', e, k1, k2, k3, k4, _⟩ := hU
  cases e
  refine ⟨w2.heap.size, ua, uc, rfl, { cells := World.alloc_heap_new w2 _, row := k3.below (below_alloc w2 _), off := fun y e => by have := (k4 y e).2; omega, le := Nat.zero_le _, cap := k1, nil := k2, small := hl }, hs, hb2.trans ((below_alloc w2 _).mono hs)⟩
/-- may an entry of so many bytes have this number? -/
def mayE (n : Int) (len : Nat) : Int := if n < 0 ∨ 4611686018427387904 < n then 4 else if 4096 < len then 3 else 0
theorem may_any (n : Int) (a : Option Addr) (len c : Nat) (w : World) : Calls Tryz.prog 82 #[.int .i64 n, .slice a len c] w fun e w' => e = .returned (.int .i64 (mayE n len)) ∧ w = w' := by
  unfold mayE
  by_cases h1 : n < 0
  · rw [if_pos (.inl h1)]
    have g1 : decide (n < 0) = true := by simpa using h1
    clear h1
    go_enter Tryz.func82, Tryz.ntmps82
    go_wp2
    go_ret
    exact ⟨rfl, rfl⟩
  have g1 : decide (n < 0) = false := by simpa using h1
  by_cases h2 : 4611686018427387904 < n
  · rw [if_pos (.inr h2)]
    have g2 : decide (4611686018427387904 < n) = true := by simpa using h2
    clear h1 h2
    go_enter Tryz.func82, Tryz.ntmps82
    go_wp2
    go_ret
    exact ⟨rfl, rfl⟩
  have g2 : decide (4611686018427387904 < n) = false := by simpa using h2
  rw [if_neg (by rintro (h | h); exact h1 h; exact h2 h)]
  by_cases h3 : 4096 < len
  · rw [if_pos h3]
    have g3 : decide ((4096 : Int) < (len : Int)) = true := by simp; omega
    clear h1 h2 h3
    go_enter Tryz.func82, Tryz.ntmps82
    go_wp2
    go_ret
    exact ⟨rfl, rfl⟩
  · rw [if_neg h3]
    have g3 : decide ((4096 : Int) < (len : Int)) = false := by simp; omega
    clear h1 h2 h3
    go_enter Tryz.func82, Tryz.ntmps82
    go_wp2
    go_ret
    exact ⟨rfl, rfl⟩
theorem sgn_eq (x : Nat) (hx : x < 18446744073709551616) : (sgn x = (x : Int) ∧ x < 9223372036854775808) ∨ (sgn x < 0 ∧ 9223372036854775808 ≤ x) := by
  unfold sgn
  rw [IntKind.wrap_i64]
  omega
theorem takeOk_iff (b : List UInt8) : takeOk b = true ↔ 10 ≤ b.length ∧ lstM b 8 ≤ 4096 ∧ b.length = lstM b 8 + 10 ∧ takeN b ≤ 4611686018427387904 := by
  unfold takeOk lstM takeN
  simp only [Bool.and_eq_true, decide_eq_true_eq]
  omega
/-- what Take answers -/
def TakePost (w : World) (b : List UInt8) (e : Ending) (w' : World) : Prop :=
  (takeOk b = true ∧ ∃ U, e = .returned (.tuple #[.int .i64 (takeN b : Int), U, .int .i64 0]) ∧ BytesIn w' (fun x => w.heap.size ≤ x) U (takeB b) ∧ Below w.heap.size w w') ∨
  (takeOk b = false ∧ e = .returned (.tuple #[.int .i64 0, .slice none 0 0, .int .i64 250]) ∧ Below w.heap.size w w')
theorem Chg.new1 {w w1 w' : World} {p : Nat} (hb : Below w.heap.size w w1) (hp : w.heap.size ≤ p) (hc : Chg (· = p) w1 w') : Below w.heap.size w w' :=
  hb.trans ⟨hc.os, hc.tape, hc.output, hc.size, fun k hk => hc.block k (by have := hb.size; omega) (fun e => by omega)⟩
set_option maxRecDepth 100000 in
set_option maxHeartbeats 8000000 in
theorem take_any {w : World} {a : Option Addr} {c : Nat} {b : List UInt8} (hrow : RowAt w a (b.map bv)) (hnil : a = none → c = 0) (hl : b.length ≤ 140737488355328) :
    Calls Tryz.prog 43 #[.slice a b.length c] w (TakePost w b) := by
  have hR := newReader_any hrow hnil hl
  have hlt := take_unbe_lt b 0 8
  have hlt2 : unbe ((b.drop 0).take 8) < 18446744073709551616 := hlt
  clear hlt hrow hnil
  -- the ways on which it answers an error
  have bad : takeOk b = false → ∀ w', Below w.heap.size w w' → TakePost w b (.returned (.tuple #[.int .i64 0, .slice none 0 0, .int .i64 250])) w' := fun h w' hb => .inr ⟨h, rfl, hb⟩
  by_cases h8 : 8 ≤ b.length
  · have e1 : takeX b 0 8 = takeN b := by unfold takeX takeN; rw [if_pos (by omega), List.drop_zero]
    have e2 : takeP b 0 8 = 8 := by unfold takeP; rw [if_pos (by omega)]
    have e3 : takeE b 0 8 = 0 := by unfold takeE; rw [if_pos (by omega)]
    have hN2 : takeN b < 18446744073709551616 := by rw [List.drop_zero] at hlt2; exact hlt2
    have hS : ∀ (W : World) p a' c', RdAt W p a' c' b 0 → Calls Tryz.prog 79 #[.pointer (some ⟨p, 0, none⟩)] W fun e w' => e = .returned (.tuple #[.int .i64 (sgn (takeN b)), .int .i64 0]) ∧ RdAt w' p a' c' b 8 ∧ Chg (· = p) W w' := fun W p a' c' h => by
      have := signed_any h
      rw [e1, e2, e3] at this
      exact this
    clear e1 e2 e3 hlt2
    obtain ⟨sv, hsv⟩ : ∃ sv, sgn (takeN b) = sv := ⟨_, rfl⟩
    rw [hsv] at hS
    have HS := Lib.hid hS
    by_cases hk : lstOk b 8
    · have hk2 := hk.2.1
      have hk3 := hk.2.2
      have hll : ((b.drop (8 + 2)).take (lstM b 8)).length = lstM b 8 := by simp; omega
      obtain ⟨m, hm⟩ : ∃ m, lstM b 8 = m := ⟨_, rfl⟩
      have hLO : ∀ (W : World) p a' c', RdAt W p a' c' b 8 → Calls Tryz.prog 80 #[.pointer (some ⟨p, 0, none⟩), .int .i64 2, .int .i64 4096] W fun e w' => ∃ ua uc, e = .returned (.tuple #[.slice ua m uc, .int .i64 0]) ∧ BytesIn w' (fun x => W.heap.size ≤ x) (.slice ua m uc) ((b.drop 10).take m) ∧ RdAt w' p a' c' b (10 + m) ∧ Chg (· = p) W w' := fun W p a' c' h => by
        refine (list_ok h hk).mono ?_
        rintro _ w' ⟨U, rfl, hU, hR, hc⟩
        obtain ⟨ua, uc, rfl, _⟩ := hU.row
        rw [hll] at hU ⊢
        rw [hm] at hU hR ⊢
        exact ⟨ua, uc, rfl, hU, hR, hc⟩
      rw [hm] at hk2 hk3 hll
      have HLO := Lib.hid hLO
      clear hLO hS hk
      by_cases he : b.length = m + 10
      · have hif : (if 10 + m < b.length then (111 : Int) else 0) = 0 := if_neg (by omega)
        have HIF := Lib.hid hif
        by_cases hn : takeN b ≤ 4611686018427387904
        · have hok : takeOk b = true := (takeOk_iff b).2 ⟨by omega, by rw [hm]; exact hk2, by rw [hm]; exact he, hn⟩
          have hsv2 : sv = (takeN b : Int) := by rw [← hsv]; rcases sgn_eq _ hN2 with h | h; exact h.1; omega
          have hmay : mayE sv m = 0 := by unfold mayE; rw [if_neg (by omega), if_neg (by omega)]
          have htb : (b.drop 10).take m = takeB b := by unfold takeB; rw [List.take_of_length_le (by simp; omega)]
          rw [htb] at HLO
          subst hsv2
          have HK := Lib.hid hok
          have HM := Lib.hid hmay
          clear hsv he hn hok htb hm hll bad hk2 hk3 hif hmay
          go_enter Tryz.func43, Tryz.ntmps43
          go_wp2_with (first
            | (go_at_call 78; refine hR.mono ?_; rintro _ w1 ⟨p, a', c', rfl, hR1, hp, hb1⟩; have hS1 := HS.out _ _ _ _ hR1)
            | (go_at_call 79; refine hS1.mono ?_; rintro _ w2 ⟨rfl, hR2, hc2⟩; have hL1 := HLO.out _ _ _ _ hR2; have hb2 := Chg.new1 hb1 hp hc2)
            | (go_at_call 80; refine hL1.mono ?_; rintro _ w3 ⟨ua, uc, rfl, hU, hR3, hc3⟩; have hb3 := Chg.new1 hb2 hp hc3; have hE := end_any hR3; rw [HIF.out] at hE)
            | (go_at_call 81; refine hE.mono ?_; rintro _ w4 ⟨rfl, hb4⟩; have hb5 := hb3.trans (hb4.mono hb3.size))
            | (go_at_call 82; refine (may_any _ _ _ _ _).mono ?_; rintro _ w5 ⟨rfl, rfl⟩; rw [HM.out]))
          go_ret3
          exact .inl ⟨HK.out, _, rfl, hU.kept (Chg.of_below (O := fun _ => False) hb4) (fun _ _ h => h) (fun x hx => by have := hb2.size; omega), hb5⟩
        · have hok : takeOk b = false := by rw [Bool.eq_false_iff]; intro h; exact hn ((takeOk_iff b).1 h).2.2.2
          have hmay : mayE sv m = 4 := by unfold mayE; rw [if_pos (by rw [← hsv]; rcases sgn_eq _ hN2 with h | h; omega; omega)]
          have HK := Lib.hid hok
          have HM := Lib.hid hmay
          have HB := Lib.hid bad
          clear hsv he hn hok hm hll bad hk2 hk3 hif hmay
          go_enter Tryz.func43, Tryz.ntmps43
          go_wp2_with (first
            | (go_at_call 78; refine hR.mono ?_; rintro _ w1 ⟨p, a', c', rfl, hR1, hp, hb1⟩; have hS1 := HS.out _ _ _ _ hR1)
            | (go_at_call 79; refine hS1.mono ?_; rintro _ w2 ⟨rfl, hR2, hc2⟩; have hL1 := HLO.out _ _ _ _ hR2; have hb2 := Chg.new1 hb1 hp hc2)
            | (go_at_call 80; refine hL1.mono ?_; rintro _ w3 ⟨ua, uc, rfl, hU, hR3, hc3⟩; have hb3 := Chg.new1 hb2 hp hc3; have hE := end_any hR3; rw [HIF.out] at hE)
            | (go_at_call 81; refine hE.mono ?_; rintro _ w4 ⟨rfl, hb4⟩; have hb5 := hb3.trans (hb4.mono hb3.size))
            | (go_at_call 82; refine (may_any _ _ _ _ _).mono ?_; rintro _ w5 ⟨rfl, rfl⟩; rw [HM.out]))
          go_ret3
          exact HB.out HK.out _ hb5
      · have hif : (if 10 + m < b.length then (111 : Int) else 0) = 111 := if_pos (by omega)
        have HIF := Lib.hid hif
        have hok : takeOk b = false := by rw [Bool.eq_false_iff]; intro h; exact he (by have := ((takeOk_iff b).1 h).2.2.1; omega)
        have HK := Lib.hid hok
        have HB := Lib.hid bad
        clear hsv he hok hm hll bad hk2 hk3 hif
        go_enter Tryz.func43, Tryz.ntmps43
        go_wp2_with (first
          | (go_at_call 78; refine hR.mono ?_; rintro _ w1 ⟨p, a', c', rfl, hR1, hp, hb1⟩; have hS1 := HS.out _ _ _ _ hR1)
          | (go_at_call 79; refine hS1.mono ?_; rintro _ w2 ⟨rfl, hR2, hc2⟩; have hL1 := HLO.out _ _ _ _ hR2; have hb2 := Chg.new1 hb1 hp hc2)
          | (go_at_call 80; refine hL1.mono ?_; rintro _ w3 ⟨ua, uc, rfl, hU, hR3, hc3⟩; have hb3 := Chg.new1 hb2 hp hc3; have hE := end_any hR3; rw [HIF.out] at hE)
          | (go_at_call 81; refine hE.mono ?_; rintro _ w4 ⟨rfl, hb4⟩; have hb5 := hb3.trans (hb4.mono hb3.size)))
        go_ret3
        exact HB.out HK.out _ hb5
    · have hLO : ∀ (W : World) p a' c', RdAt W p a' c' b 8 → Calls Tryz.prog 80 #[.pointer (some ⟨p, 0, none⟩), .int .i64 2, .int .i64 4096] W fun e w' => ∃ er : Int, e = .returned (.tuple #[.slice none 0 0, .int .i64 er]) ∧ (er != 0) = true ∧ Chg (· = p) W w' := fun W p a' c' h => by
        refine (list_bad h hk).mono ?_
        rintro _ w' ⟨er, rfl, he, _, hc⟩
        exact ⟨er, rfl, by simpa using he, hc⟩
      have hok : takeOk b = false := by rw [Bool.eq_false_iff]; intro h; have h1 := (takeOk_iff b).1 h; exact hk ⟨by omega, h1.2.1, by omega⟩
      have HK := Lib.hid hok
      have HB := Lib.hid bad
      have HLO := Lib.hid hLO
      clear hsv hok bad hLO hS hk
      go_enter Tryz.func43, Tryz.ntmps43
      go_wp2_with (first
        | (go_at_call 78; refine hR.mono ?_; rintro _ w1 ⟨p, a', c', rfl, hR1, hp, hb1⟩; have hS1 := HS.out _ _ _ _ hR1)
        | (go_at_call 79; refine hS1.mono ?_; rintro _ w2 ⟨rfl, hR2, hc2⟩; have hL1 := HLO.out _ _ _ _ hR2; have hb2 := Chg.new1 hb1 hp hc2)
        | (go_at_call 80; refine hL1.mono ?_; rintro _ w3 ⟨er, rfl, her, hc3⟩; have hb3 := Chg.new1 hb2 hp hc3))
      go_ret3
      exact HB.out HK.out _ hb3
  · have e1 : takeX b 0 8 = 0 := by unfold takeX; rw [if_neg (by omega)]
    have e2 : takeP b 0 8 = 0 := by unfold takeP; rw [if_neg (by omega)]
    have e3 : takeE b 0 8 = 110 := by unfold takeE; rw [if_neg (by omega)]
    have hS : ∀ (W : World) p a' c', RdAt W p a' c' b 0 → Calls Tryz.prog 79 #[.pointer (some ⟨p, 0, none⟩)] W fun e w' => e = .returned (.tuple #[.int .i64 0, .int .i64 110]) ∧ RdAt w' p a' c' b 0 ∧ Chg (· = p) W w' := fun W p a' c' h => by
      have := signed_any h
      rw [e1, e2, e3] at this
      exact this
    have hLO : ∀ (W : World) p a' c', RdAt W p a' c' b 0 → Calls Tryz.prog 80 #[.pointer (some ⟨p, 0, none⟩), .int .i64 2, .int .i64 4096] W fun e w' => ∃ ua un uc, ∃ er : Int, e = .returned (.tuple #[.slice ua un uc, .int .i64 er]) ∧ Chg (· = p) W w' := fun W p a' c' h => by
      by_cases hk : lstOk b 0
      · refine (list_ok h hk).mono ?_
        rintro _ w' ⟨U, rfl, hU, hR, hc⟩
        obtain ⟨ua, uc, rfl, _⟩ := hU.row
        exact ⟨ua, _, uc, 0, rfl, hc⟩
      · refine (list_bad h hk).mono ?_
        rintro _ w' ⟨er, rfl, he, _, hc⟩
        exact ⟨none, 0, 0, er, rfl, hc⟩
    have hok : takeOk b = false := by rw [Bool.eq_false_iff]; intro h; have h1 := (takeOk_iff b).1 h; omega
    have HK := Lib.hid hok
    have HB := Lib.hid bad
    have HLO := Lib.hid hLO
    have HS := Lib.hid hS
    clear e1 e2 e3 hok bad hLO hS hlt2
    go_enter Tryz.func43, Tryz.ntmps43
    go_wp2_with (first
      | (go_at_call 78; refine hR.mono ?_; rintro _ w1 ⟨p, a', c', rfl, hR1, hp, hb1⟩; have hS1 := HS.out _ _ _ _ hR1)
      | (go_at_call 79; refine hS1.mono ?_; rintro _ w2 ⟨rfl, hR2, hc2⟩; have hL1 := HLO.out _ _ _ _ hR2; have hb2 := Chg.new1 hb1 hp hc2)
      | (go_at_call 80; refine hL1.mono ?_; rintro _ w3 ⟨ua, un, uc, er, rfl, hc3⟩; have hb3 := Chg.new1 hb2 hp hc3))
    go_ret3
    exact HB.out HK.out _ hb3

end Go.Proofs.YtlmdpcaikhdenaaGreat
/- Entry: One; the writer's lists. -/
namespace Go.Proofs.YtlmdpcaikhdenaaGreat
open Go.RowKit Go.Maps

theorem Chg.belowLo6 {O : Nat → Prop} {w w' : World} {lo : Nat} (h : Chg O w w') (hlo : lo ≤ w.heap.size) (hO : ∀ k, O k → lo ≤ k) : Below lo w w' := ⟨h.os, h.tape, h.output, h.size, fun k hk => h.block k (by omega) (fun ho => by have := hO k ho; omega)⟩
section
variable {F : Nat → Prop} {w w' : World} {p : Nat} {l : List UInt8}
theorem signedW_any (h : WrAt F w p l) (hl : l.length ≤ 140737488355000) {n : Nat} (hn : n < 9223372036854775808) :
    Calls Tryz.prog 113 #[.pointer (some ⟨p, 0, none⟩), .int .i64 (n : Int)] w fun e w' => e = .returned (.int .i64 0) ∧ WrStep F w w' p (l ++ be 8 n) := by
  have hP := put_uint64 h hl (x := n) (by omega)
  have hcv : IntKind.u64.wrap (n : Int) = (n : Int) := by rw [show IntKind.u64.wrap (n : Int) = (n : Int) % 18446744073709551616 from by simp [IntKind.wrap, IntKind.bits, IntKind.signed]]; omega
  clear h
  have hn0 : (0 : Int) ≤ (n : Int) := by omega
  clear hn
  go_enter Tryz.func113, Tryz.ntmps113
  go_wp2_with (go_at_call 154; refine hP.mono ?_; rintro _ w2 ⟨rfl, hW⟩)
  go_ret
  exact ⟨rfl, hW⟩
set_option maxHeartbeats 1000000 in
theorem bytesW_any (h : WrAt F w p l) (hl : l.length ≤ 140737488355000) :
    Calls Tryz.prog 115 #[.pointer (some ⟨p, 0, none⟩)] w fun e w' => ∃ U, e = .returned U ∧ BytesIn w' (fun x => w.heap.size ≤ x) U l ∧ Below w.heap.size w w' := by
  obtain ⟨v, h1, h2, h3, h4⟩ := h
  obtain ⟨va, vc, rfl, hr, _⟩ := RowAt.of_owns h2
  have c0 := cell_of_heap h1 (i := 0) (v := .slice va l.length vc) (by rfl)
  have hC := clone_any va vc l w (ownsRow_cap0 h2) hr (by omega)
  clear h1 h2 h3 h4
  go_enter Tryz.func115, Tryz.ntmps115
  go_wp2_with (go_at_call 70; refine hC.mono ?_; rintro _ w2 ⟨U, rfl, hU, hb2⟩)
  go_ret
  exact ⟨_, rfl, hU.kept (Chg.refl (fun _ => False) _) (fun _ _ h => h) (fun x hx => hx.1), hb2⟩
set_option maxRecDepth 100000 in
set_option maxHeartbeats 4000000 in
theorem listW2_any (h : WrAt F w p l) (hl : l.length ≤ 140737488340000) {a : Option Addr} {c : Nat} {b : List UInt8} (hrow : RowAt w a (b.map bv)) (hnil : a = none → c = 0) (hoff : b ≠ [] → ∀ y, a = some y → ¬ F y.block) (hb : b.length ≤ 4096) :
    Calls Tryz.prog 114 #[.pointer (some ⟨p, 0, none⟩), .int .i64 2, .slice a b.length c] w fun e w' => e = .returned (.int .i64 0) ∧ WrStep F w w' p (l ++ be 2 b.length ++ b) := by
  have hmax : maxLen = 9223372036854775807 := rfl
  obtain ⟨i0, hi, hz0, hz1, hz2⟩ := info_parts Tryz.info5
  obtain ⟨v, h1, h2, h3, h4⟩ := h
  obtain ⟨va, vc, rfl, _, _⟩ := RowAt.of_owns h2
  have c0 := cell_of_heap h1 (i := 0) (v := .slice va l.length vc) (by rfl)
  have hF := form_any h2 (by omega) (k := 2) (by omega) (x := b.length) (by omega)
  have hcv : IntKind.u64.wrap (b.length : Int) = (b.length : Int) := by rw [show IntKind.u64.wrap (b.length : Int) = (b.length : Int) % 18446744073709551616 from by simp [IntKind.wrap, IntKind.bits, IntKind.signed]]; omega
  have hsh : (b.length : Int) / 65536 = 0 := by omega
  have hpl := heap_lt h1
  have H4 := Lib.hid h4
  have H1 := Lib.hid h1
  have H2 := Lib.hid h2
  have HO := Lib.hid hoff
  clear h1 h4 hoff
  go_enter Tryz.func114, Tryz.ntmps114
  go_wp2_with (first
    | (go_at_call 155; refine hF.mono ?_; rintro _ w2 ⟨v2, rfl, hr2, hg2⟩; obtain ⟨wa, wc, rfl, _, _⟩ := RowAt.of_owns hr2; have hrow2 : RowAt w2 a (b.map bv) := hrow.chg hg2.1 (fun hne y e ho => HO.out (by simpa using hne) y e ((H4.out _).2 (.inr ho))))
    | (at_builtin; refine wpList_append_src_at _ rfl (.tmp 34) (.tmp 35) 26 rfl 0 5 i0 (.int .u8 0) 1 Tryz.underlying26 hi hz0 hz1 hz2 rfl _ _ _ rfl hr2 a b.length c (b.map bv) rfl (by simp) hnil hrow2 (by intro u hu; obtain ⟨_, _, rfl⟩ := List.mem_map.1 hu; rfl) (by omega) (by omega) (Nat.zero_le _) ?_; intro v3 w3 hr3 hg3 hat3; obtain ⟨ya, yc, rfl, _, _⟩ := RowAt.of_owns hr3; have hgg := hg2.trans (Grew.append hg3 hat3); have hx3 := hgg.1.obj H1.out h3; have e0 := cell_of_heap hx3 (i := 0) (v := .slice va l.length vc) (by rfl); have z0 := frozen_of_heap (i := 0) hx3))
  go_ret
  exact ⟨rfl, WrAt.put (l := l) (l' := l ++ be 2 b.length ++ b) H1.out H2.out h3 H4.out (by rw [List.length_append, List.length_append, be_len, List.map_append, List.map_append]; exact hr3) hgg⟩
end
set_option maxRecDepth 100000 in
set_option maxHeartbeats 4000000 in
theorem one_any {w : World} {n : Nat} (hn : n ≤ 4611686018427387904) {a : Option Addr} {c : Nat} {b : List UInt8} (hrow : RowAt w a (b.map bv)) (hnil : a = none → c = 0) (hb : b.length ≤ 4096) :
    Calls Tryz.prog 73 #[.int .i64 (n : Int), .slice a b.length c] w fun e w' => ∃ U, e = .returned (.tuple #[U, .int .i64 0]) ∧ BytesIn w' (fun x => w.heap.size ≤ x) U (oneL n b) ∧ Below w.heap.size w w' := by
  have hmay : mayE (n : Int) b.length = 0 := by unfold mayE; rw [if_neg (by omega), if_neg (by omega)]
  have hW := newWriter_any w
  have HM := Lib.hid hmay
  have hrl : ∀ y, b ≠ [] → a = some y → y.block < w.heap.size := fun y hne e => by
    obtain ⟨g, off, e2, hc⟩ := hrow (by simpa using hne)
    rw [e2] at e; cases e
    cases b with
    | nil => exact absurd rfl hne
    | cons x r => exact cell_lt (hc 0 (bv x) (by simp))
  have HRL := Lib.hid hrl
  clear hmay hrl
  go_enter Tryz.func73, Tryz.ntmps73
  go_wp2_with (first
    | (go_at_call 82; refine (may_any _ _ _ _ _).mono ?_; rintro _ w5 ⟨rfl, rfl⟩; rw [HM.out])
    | (go_at_call 112; refine hW.mono ?_; rintro _ w1 ⟨rfl, hW1, hb1⟩; have hS := signedW_any hW1 (by decide) (n := n) (by omega))
    | (go_at_call 113; refine hS.mono ?_; rintro _ w2 ⟨rfl, F2, hW2, hc2, hF2⟩; have hb2 : Below w.heap.size w w2 := Chg.new1 hb1 (Nat.le_refl _) hc2; have hl2 := hb1.size; have hrow2 := hrow.below hb2; have hL := listW2_any hW2 (by simp [be_len]) hrow2 hnil (fun hne y e hf => by have := HRL.out y hne e; rcases hF2 _ hf with h | h; omega; omega) hb (c := c))
    | (go_at_call 114; refine hL.mono ?_; rintro _ w3 ⟨rfl, F3, hW3, hc3, hF3⟩; have hb3 : Below w.heap.size w w3 := hb2.trans (hc3.belowLo6 hb2.size (fun k hk => by rcases hF2 k hk with h | h; omega; omega)); have hB := bytesW_any hW3 (by simp [be_len]; omega))
    | (go_at_call 115; refine hB.mono ?_; rintro _ w4 ⟨U, rfl, hU, hb4⟩))
  go_ret2
  have hs3 := hb3.size
  exact ⟨_, rfl, hU.kept (Chg.refl (fun _ => False) _) (fun _ _ h => h) (fun x hx => by omega), hb3.trans (hb4.mono hs3)⟩

end Go.Proofs.YtlmdpcaikhdenaaGreat
/- Bytes: Equal, Clone; the record's ends. -/
namespace Go.Proofs.YtlmdpcaikhdenaaGreat
open Go.RowKit Go.Maps

set_option maxRecDepth 100000 in
set_option maxHeartbeats 2000000 in
theorem equal_any {w : World} {a a' : Option Addr} {c c' : Nat} {l m : List UInt8} (hl : RowAt w a (l.map bv)) (hm : RowAt w a' (m.map bv)) (hll : l.length ≤ 140737488355328) (hml : m.length ≤ 140737488355328) :
    Calls Tryz.prog 123 #[.slice a l.length c, .slice a' m.length c'] w fun e w' => e = .returned (.bool (l == m)) ∧ Below w.heap.size w w' := by
  have hmax : maxLen = 9223372036854775807 := rfl
  by_cases hlen : l.length = m.length
  · have g1 : ((l.length : Int) != (m.length : Int)) = false := by simp [hlen]
    have HL := Lib.hid hlen
    go_enter Tryz.func123, Tryz.ntmps123
    go_wp2
    go_loopw [13] (fun i wr => ∃ k : Nat, k ≤ l.length ∧ i = .int .i64 k ∧ l.take k = m.take k ∧ Below w.heap.size w wr) (fun i _ => l.length - (intOf i).toNat)
    case atStart => exact ⟨0, Nat.zero_le _, rfl, by simp, Below.refl _ _⟩
    case round =>
      obtain ⟨k, hk, rfl, ht, hb⟩ := hrel
      by_cases hlt : k < l.length
      · obtain ⟨b1, o1, rfl, q1⟩ := (hl.below hb).at_ (k := k) (by simpa using hlt)
        obtain ⟨b2, o2, rfl, q2⟩ := (hm.below hb).at_ (k := k) (by have := HL.out; simp; omega)
        have hlt2 : k < m.length := by have := HL.out; omega
        obtain ⟨x, hx⟩ : ∃ x, l[k] = x := ⟨_, rfl⟩
        obtain ⟨y, hy⟩ : ∃ y, m[k] = y := ⟨_, rfl⟩
        rw [List.getElem_map, hx] at q1
        rw [List.getElem_map, hy] at q2
        unfold bv at q1 q2
        have j0 : (0 : Int) ≤ (k : Int) := by omega
        have j1 : (k : Int) < (l.length : Int) := by omega
        have j2 : (k : Int) < (m.length : Int) := by omega
        have HT := Lib.hid ht
        have HX := Lib.hid hx
        have HY := Lib.hid hy
        clear ht hx hy
        by_cases hxy : x = y
        · have g3 : ((x.toNat : Int) != (y.toNat : Int)) = false := by simp [hxy]
          have HXY := Lib.hid hxy
          clear hxy
          go_wp2
          go_quiet (fail)
          go_wp2
          go_roundw
          case rel => exact ⟨k + 1, by omega, by go_num, by rw [List.take_add_one, List.take_add_one, List.getElem?_eq_getElem hlt, List.getElem?_eq_getElem hlt2, HX.out, HY.out, HT.out, HXY.out], below_drewN hb _⟩
          case measure => simp [intOf]; omega
        · have g3 : ((x.toNat : Int) != (y.toNat : Int)) = true := by
            simp only [bne_iff_ne, ne_eq]
            intro e
            exact hxy (UInt8.toNat_inj.1 (by omega))
          have hne : (l == m) = false := by
            rw [beq_eq_false_iff_ne]
            intro e
            subst e
            exact hxy (by rw [← HX.out, ← HY.out])
          have HNE := Lib.hid hne
          clear hxy hne
          go_wp2
          go_quiet (fail)
          go_wp2
          go_ret
          exact ⟨ret_bool HNE.out.symm, below_drewN hb _⟩
      · obtain rfl : k = l.length := by omega
        have he : (l == m) = true := by
          rw [beq_iff_eq]
          have := HL.out
          rwa [List.take_of_length_le (Nat.le_refl _), List.take_of_length_le (by omega)] at ht
        have HE := Lib.hid he
        clear ht he
        go_wp2
        go_ret
        exact ⟨ret_bool HE.out.symm, hb⟩
  · have hne : (l == m) = false := by rw [beq_eq_false_iff_ne]; intro e; exact hlen (by rw [e])
    rw [hne]
    have g1 : ((l.length : Int) != (m.length : Int)) = true := by simp; omega
    clear hlen hne
    go_enter Tryz.func123, Tryz.ntmps123
    go_wp2
    go_ret
    exact ⟨rfl, Below.refl _ _⟩
theorem bv_ofNat (x : Nat) : bv (UInt8.ofNat x) = .int .u8 ((x : Int) % 256) := by
  unfold bv
  rw [UInt8.toNat_ofNat']
  simp
set_option maxRecDepth 100000 in
set_option maxHeartbeats 2000000 in
theorem ends_any {w : World} {a : Option Addr} {c : Nat} {l : List UInt8} (hrow : RowAt w a (l.map bv)) (hl : l.length ≤ 140737488355328) :
    Calls Tryz.prog 117 #[.slice a l.length c] w fun e w' => ∃ U, e = .returned U ∧ BytesIn w' (fun x => w.heap.size ≤ x) U (ends l) ∧ Below w.heap.size w w' := by
  have hS := sum_any (w := w.alloc (.cells #[.slice a l.length c] 26)) (g := w.heap.size) (c' := 1) (cell_new w _ _ 0 _ rfl) (hrow.below (below_alloc w _)) hl
  have hlt := crcSum_lt l
  have hb : ends l = [UInt8.ofNat (crcSum l), UInt8.ofNat (crcSum l / 256), UInt8.ofNat (crcSum l / 65536), UInt8.ofNat (crcSum l / 16777216)] := rfl
  obtain ⟨s, hs⟩ : ∃ s, crcSum l = s := ⟨_, rfl⟩
  rw [hs] at hS hb hlt
  have HB := Lib.hid hb
  have hs0 : (0 : Int) ≤ (s : Int) := by omega
  have hs1 : (s : Int) < 4294967296 := by omega
  clear hs hb hrow
  go_enter Tryz.func117, Tryz.ntmps117
  go_wp2_with (go_at_call 157; refine hS.mono ?_; rintro _ w2 ⟨rfl, rfl⟩)
  go_ret
  have hb1 := below_alloc w (.cells #[.slice a l.length c] 26)
  have hb2 : Below w.heap.size w ((w.alloc (.cells #[.slice a l.length c] 26)).alloc (.cells #[.int .u8 ((s : Int) % 256), .int .u8 ((s : Int) / 256 % 256), .int .u8 ((s : Int) / 65536 % 256), .int .u8 ((s : Int) / 16777216)] 5)) := hb1.alloc (by simp) _
  refine ⟨_, rfl, ?_, hb2⟩
  rw [HB.out]
  refine BytesIn.of_owns (base := w.heap.size) (n := 4) ?_ (fun b h _ => h)
  have hlit := ownsRow_lit (w.alloc (.cells #[.slice a l.length c] 26)) w.heap.size #[.int .u8 ((s : Int) % 256), .int .u8 ((s : Int) / 256 % 256), .int .u8 ((s : Int) / 65536 % 256), .int .u8 ((s : Int) / 16777216)] 5 1 4 (by simp) (by decide) rfl
  have h4 : (((s / 16777216 : Nat) : Int) % 256) = (s : Int) / 16777216 := by omega
  simp only [List.map_cons, List.map_nil, bv_ofNat]
  rw [h4]
  simpa using hlit
set_option maxRecDepth 100000 in
set_option maxHeartbeats 1000000 in
/-- bytes.Clone -/
theorem bclone_any {w : World} {a : Option Addr} {c : Nat} {l : List UInt8} (hrow : RowAt w a (l.map bv)) (hnil : a = none → c = 0) (hl : l.length ≤ 140737488355328) :
    Calls Tryz.prog 48 #[.slice a l.length c] w fun e w' => ∃ U, e = .returned U ∧ BytesIn w' (fun x => w.heap.size ≤ x) U l ∧ Below w.heap.size w w' := by
  have hmax : maxLen = 9223372036854775807 := rfl
  obtain ⟨i0, hi, hz0, hz1, hz2⟩ := info_parts Tryz.info5
  have hq : ∀ (w : World) (a : Option Addr) (n c n' c' : Nat), (binOp .eql 26 (.slice a n c) (.slice none n' c')).run Tryz.prog w = .ok (.bool a.isNone) w := fun w a n c n' c' => Lib.run_eql_slice_nil w _ _ a n c n' c' Tryz.underlying26
  cases a with
  | none =>
    obtain rfl := hnil rfl
    have hl0 : l = [] := by
      by_cases h : l = []
      · exact h
      · obtain ⟨_, _, e, _⟩ := hrow (by simpa using h); cases e
    subst hl0
    go_enter Tryz.func48, Tryz.ntmps48
    go_wp2
    go_ret
    exact ⟨_, rfl, BytesIn.nil _ _, Below.refl _ _⟩
  | some x =>
    go_enter Tryz.func48, Tryz.ntmps48
    go_wp2_with (at_builtin; go_loud (refine wpList_append_any _ rfl (.tmp 5) (.tmp 6) 26 rfl w.heap.size 5 i0 (.int .u8 0) 1 Tryz.underlying26 hi hz0 hz1 hz2 rfl _ 0 [] rfl (ownsRow_lit w w.heap.size #[] 5 1 0 (Nat.le_refl _) (by omega) rfl) (some x) l.length c (l.map bv) rfl (by simp) hnil (hrow.below (below_alloc w (.cells #[] 5))) (by intro u hu; obtain ⟨_, _, rfl⟩ := List.mem_map.1 hu; rfl) (by omega) (by omega) (by rw [World.size_alloc]; omega) ?_))
    intro v1 w1 hv1 hg1
    have hown1 : w1.ownsRow w.heap.size 5 1 v1 l.length (l.map bv) := by simpa using hv1
    have hb1 : Below w.heap.size w w1 := (below_alloc w _).grown hg1 (by rw [World.size_alloc]; omega) (by intro k hk; simp [Value.ownBlock] at hk; omega)
    obtain ⟨sa, sc, rfl, _, _⟩ := RowAt.of_owns hown1
    go_wp2
    go_ret
    exact ⟨_, rfl, BytesIn.of_owns hown1 (fun b h _ => h), hb1⟩

end Go.Proofs.YtlmdpcaikhdenaaGreat
