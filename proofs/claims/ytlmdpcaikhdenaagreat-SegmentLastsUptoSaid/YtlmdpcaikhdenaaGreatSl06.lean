/- Texts of this claim, one behind the other: SgF, SgG, SgH, SgI. -/
import Derived.Test.YtlmdpcaikhdenaaGreatSl05
set_option linter.unusedSimpArgs false
set_option linter.unusedVariables false
/- Wire: numbers that are read. (printed by gen/wtake.py) -/
namespace Go.Proofs.YtlmdpcaikhdenaaGreat
open Go.RowKit Go.Maps

/-- reading n bytes as a number behind k: the number, the place then, the error -/
def takeX (b : List UInt8) (k n : Nat) : Nat := if k + n ≤ b.length then unbe ((b.drop k).take n) else 0
def takeP (b : List UInt8) (k n : Nat) : Nat := if k + n ≤ b.length then k + n else k
def takeE (b : List UInt8) (k n : Nat) : Int := if k + n ≤ b.length then 0 else 110
theorem take_unbe_lt (b : List UInt8) (k n : Nat) : unbe ((b.drop k).take n) < 256 ^ n := by
  have h := unbe_lt ((b.drop k).take n)
  have h1 : ((b.drop k).take n).length ≤ n := List.length_take_le _ _
  exact Nat.lt_of_lt_of_le h (Nat.pow_le_pow_right (by omega) h1)
/-- the bytes from k on, as next hands them on -/
theorem RdAt.part {w : World} {p c : Nat} {a : Option Addr} {b : List UInt8} {k' : Nat} (h : RdAt w p a c b k') (k n : Nat) : RowAt w (subAt a c k) ((((b.drop k).take n)).map bv) := by
  rw [List.map_take, List.map_drop]
  exact (h.row.drop c k (by simpa using h.cap)).take n
section
variable {w w' : World} {p c k : Nat} {a : Option Addr} {b : List UInt8}
theorem enters_take_byte : enters 160 := fun args w => by go_simp
set_option maxHeartbeats 1000000 in
theorem take1_byte {W : World} {sa : Option Addr} {sc g : Nat} {l : List UInt8} (hrow : RowAt W sa (l.map bv)) (hl : l.length = 1) {v : Value} (hb : Boxed W g 5 v) :
    Calls Tryz.prog 160 #[.slice sa 1 sc, .pointer (some ⟨g, 0, none⟩)] W fun e W' => e = .returned (.int .i64 0) ∧ W' = W.setCell ⟨g, 0, none⟩ (.int .u8 (unbe l : Int)) := by
  have hN := number_any (c := sc) hrow (by omega)
  rw [hl] at hN
  have hlt := unbe_lt l
  rw [hl] at hlt
  have hlt2 : unbe l < 256 := hlt
  have c0 := hb.cell
  have z0 := hb.frozen
  have hw : IntKind.u8.wrap (unbe l : Int) = (unbe l : Int) := by rw [show IntKind.u8.wrap (unbe l : Int) = (unbe l : Int) % 256 from by simp [IntKind.wrap, IntKind.bits, IntKind.signed]]; omega
  obtain ⟨u, hu⟩ : ∃ u, unbe l = u := ⟨_, rfl⟩
  rw [hu] at hN hw ⊢
  have hgl := hb.lt
  clear hlt hlt2 hu hl
  have hu0 : (0 : Int) ≤ (u : Int) := by omega
  go_enter Tryz.func160, Tryz.ntmps160
  go_wp2_with (go_at_call 127; refine hN.mono ?_; rintro _ w2 ⟨rfl, rfl⟩)
  go_ret
  exact ⟨rfl, rfl⟩
set_option maxRecDepth 100000 in
set_option maxHeartbeats 2000000 in
theorem take_byte (h : RdAt w p a c b k) : Calls Tryz.prog 121 #[.pointer (some ⟨p, 0, none⟩)] w fun e w' => e = .returned (.tuple #[.int .u8 (takeX b k 1 : Int), .int .i64 (takeE b k 1)]) ∧ RdAt w' p a c b (takeP b k 1) ∧ Chg (· = p) w w' := by
  have cW := width8_any
  have hpl := heap_lt h.cells
  obtain ⟨w1, hw1⟩ : ∃ w1, w.alloc (.cells #[.int .u8 0] 5) = w1 := ⟨_, rfl⟩
  have hb1 : Below w.heap.size w w1 := by rw [← hw1]; exact below_alloc _ _
  have hz1 : w1.heap.size = w.heap.size + 1 := by rw [← hw1]; simp
  have hbx : Boxed w1 w.heap.size 5 (.int .u8 0) := by rw [← hw1]; exact Boxed.new _ _ _
  have h1 := h.below hb1
  have HW := Lib.hid hw1
  have HZ := Lib.hid hz1
  clear hw1 hz1
  unfold takeX takeP takeE
  by_cases hn : k + 1 ≤ b.length
  · rw [if_pos hn, if_pos hn, if_pos hn]
    have hll : ((b.drop k).take 1).length = 1 := by simp; omega
    have hnx := next_any h1 (n := 1) hn 160 #[.pointer (some ⟨w.heap.size, 0, none⟩)] enters_take_byte (fun er W' => er = 0 ∧ RdAt W' p a c b (k + 1) ∧ Boxed W' w.heap.size 5 (.int .u8 (unbe ((b.drop k).take 1) : Int)) ∧ Chg (· = p) w W')
      (fun W hc hR => by
        have hbW : Boxed W w.heap.size 5 (.int .u8 0) := hc.obj hbx (by omega)
        refine (take1_byte (sc := c - k) (hR.part k 1) hll hbW).mono ?_
        rintro _ W' ⟨rfl, rfl⟩
        have hs : Chg (· = w.heap.size) W (W.setCell ⟨w.heap.size, 0, none⟩ (.int .u8 (unbe ((b.drop k).take 1) : Int))) := Chg.set _ rfl
        have hz := hc.size
        have hwW : Chg (· = p) w W := (Chg.of_below hb1).trans hc (fun _ h _ => h)
        refine ⟨0, rfl, rfl, hR.moved hs (fun hne y e => by have := h.lt hne e; omega) (hs.obj hR.cells (by omega)) hR.le, Boxed.set _ hbW, hwW.trans hs (fun x hx hlt => by have hx : x = w.heap.size := hx; omega)⟩)
      (fun er w' ⟨e, _⟩ h0 => absurd e h0)
    obtain ⟨u, hu⟩ : ∃ u, unbe ((b.drop k).take 1) = u := ⟨_, rfl⟩
    rw [hu] at hnx ⊢
    clear hu hll
    go_enter Tryz.func121, Tryz.ntmps121
    go_wp2_with (first | rw [HW.out] | (go_at_call 156; refine (cW _).mono ?_; rintro _ wz ⟨rfl, rfl⟩) | (go_at_call 125; refine hnx.mono ?_; rintro _ w2 ⟨er, w3, rfl, ⟨rfl, hR3, hb3, hc3⟩, hor⟩; obtain rfl : w2 = w3 := (by rcases hor with h | h; exact h.2; exact absurd rfl h.1); have d0 := hb3.cell; clear hor))
    go_ret2
    exact ⟨rfl, hR3, hc3⟩
  · rw [if_neg hn, if_neg hn, if_neg hn]
    have hns := fun fv => next_short h1 (n := 1) (by omega) (by omega) fv
    have c0 := hbx.cell
    have hgl := hbx.lt
    clear hn
    go_enter Tryz.func121, Tryz.ntmps121
    go_wp2_with (first | rw [HW.out] | (go_at_call 156; refine (cW _).mono ?_; rintro _ wz ⟨rfl, rfl⟩) | (go_at_call 125; refine (hns _).mono ?_; rintro _ w2 ⟨rfl, hb2⟩; have d0 := (hb2.cell (p := ⟨w.heap.size, 0, none⟩) hgl).trans c0))
    go_ret2
    exact ⟨rfl, h1.below hb2, (Chg.of_below hb1).trans (Chg.of_below (O := fun _ => False) hb2) (fun _ h _ => h.elim)⟩
theorem enters_take_uint32 : enters 162 := fun args w => by go_simp
set_option maxHeartbeats 1000000 in
theorem take1_uint32 {W : World} {sa : Option Addr} {sc g : Nat} {l : List UInt8} (hrow : RowAt W sa (l.map bv)) (hl : l.length = 4) {v : Value} (hb : Boxed W g 214 v) :
    Calls Tryz.prog 162 #[.slice sa 4 sc, .pointer (some ⟨g, 0, none⟩)] W fun e W' => e = .returned (.int .i64 0) ∧ W' = W.setCell ⟨g, 0, none⟩ (.int .u32 (unbe l : Int)) := by
  have hN := number_any (c := sc) hrow (by omega)
  rw [hl] at hN
  have hlt := unbe_lt l
  rw [hl] at hlt
  have hlt2 : unbe l < 4294967296 := hlt
  have c0 := hb.cell
  have z0 := hb.frozen
  have hw : IntKind.u32.wrap (unbe l : Int) = (unbe l : Int) := by rw [show IntKind.u32.wrap (unbe l : Int) = (unbe l : Int) % 4294967296 from by simp [IntKind.wrap, IntKind.bits, IntKind.signed]]; omega
  obtain ⟨u, hu⟩ : ∃ u, unbe l = u := ⟨_, rfl⟩
  rw [hu] at hN hw ⊢
  have hgl := hb.lt
  clear hlt hlt2 hu hl
  have hu0 : (0 : Int) ≤ (u : Int) := by omega
  go_enter Tryz.func162, Tryz.ntmps162
  go_wp2_with (go_at_call 127; refine hN.mono ?_; rintro _ w2 ⟨rfl, rfl⟩)
  go_ret
  exact ⟨rfl, rfl⟩
set_option maxRecDepth 100000 in
set_option maxHeartbeats 2000000 in
theorem take_uint32 (h : RdAt w p a c b k) : Calls Tryz.prog 122 #[.pointer (some ⟨p, 0, none⟩)] w fun e w' => e = .returned (.tuple #[.int .u32 (takeX b k 4 : Int), .int .i64 (takeE b k 4)]) ∧ RdAt w' p a c b (takeP b k 4) ∧ Chg (· = p) w w' := by
  have cW := width32_any
  have hpl := heap_lt h.cells
  obtain ⟨w1, hw1⟩ : ∃ w1, w.alloc (.cells #[.int .u32 0] 214) = w1 := ⟨_, rfl⟩
  have hb1 : Below w.heap.size w w1 := by rw [← hw1]; exact below_alloc _ _
  have hz1 : w1.heap.size = w.heap.size + 1 := by rw [← hw1]; simp
  have hbx : Boxed w1 w.heap.size 214 (.int .u32 0) := by rw [← hw1]; exact Boxed.new _ _ _
  have h1 := h.below hb1
  have HW := Lib.hid hw1
  have HZ := Lib.hid hz1
  clear hw1 hz1
  unfold takeX takeP takeE
  by_cases hn : k + 4 ≤ b.length
  · rw [if_pos hn, if_pos hn, if_pos hn]
    have hll : ((b.drop k).take 4).length = 4 := by simp; omega
    have hnx := next_any h1 (n := 4) hn 162 #[.pointer (some ⟨w.heap.size, 0, none⟩)] enters_take_uint32 (fun er W' => er = 0 ∧ RdAt W' p a c b (k + 4) ∧ Boxed W' w.heap.size 214 (.int .u32 (unbe ((b.drop k).take 4) : Int)) ∧ Chg (· = p) w W')
      (fun W hc hR => by
        have hbW : Boxed W w.heap.size 214 (.int .u32 0) := hc.obj hbx (by omega)
        refine (take1_uint32 (sc := c - k) (hR.part k 4) hll hbW).mono ?_
        rintro _ W' ⟨rfl, rfl⟩
        have hs : Chg (· = w.heap.size) W (W.setCell ⟨w.heap.size, 0, none⟩ (.int .u32 (unbe ((b.drop k).take 4) : Int))) := Chg.set _ rfl
        have hz := hc.size
        have hwW : Chg (· = p) w W := (Chg.of_below hb1).trans hc (fun _ h _ => h)
        refine ⟨0, rfl, rfl, hR.moved hs (fun hne y e => by have := h.lt hne e; omega) (hs.obj hR.cells (by omega)) hR.le, Boxed.set _ hbW, hwW.trans hs (fun x hx hlt => by have hx : x = w.heap.size := hx; omega)⟩)
      (fun er w' ⟨e, _⟩ h0 => absurd e h0)
    obtain ⟨u, hu⟩ : ∃ u, unbe ((b.drop k).take 4) = u := ⟨_, rfl⟩
    rw [hu] at hnx ⊢
    clear hu hll
    go_enter Tryz.func122, Tryz.ntmps122
    go_wp2_with (first | rw [HW.out] | (go_at_call 161; refine (cW _).mono ?_; rintro _ wz ⟨rfl, rfl⟩) | (go_at_call 125; refine hnx.mono ?_; rintro _ w2 ⟨er, w3, rfl, ⟨rfl, hR3, hb3, hc3⟩, hor⟩; obtain rfl : w2 = w3 := (by rcases hor with h | h; exact h.2; exact absurd rfl h.1); have d0 := hb3.cell; clear hor))
    go_ret2
    exact ⟨rfl, hR3, hc3⟩
  · rw [if_neg hn, if_neg hn, if_neg hn]
    have hns := fun fv => next_short h1 (n := 4) (by omega) (by omega) fv
    have c0 := hbx.cell
    have hgl := hbx.lt
    clear hn
    go_enter Tryz.func122, Tryz.ntmps122
    go_wp2_with (first | rw [HW.out] | (go_at_call 161; refine (cW _).mono ?_; rintro _ wz ⟨rfl, rfl⟩) | (go_at_call 125; refine (hns _).mono ?_; rintro _ w2 ⟨rfl, hb2⟩; have d0 := (hb2.cell (p := ⟨w.heap.size, 0, none⟩) hgl).trans c0))
    go_ret2
    exact ⟨rfl, h1.below hb2, (Chg.of_below hb1).trans (Chg.of_below (O := fun _ => False) hb2) (fun _ h _ => h.elim)⟩
theorem enters_take_uint64 : enters 164 := fun args w => by go_simp
set_option maxHeartbeats 1000000 in
theorem take1_uint64 {W : World} {sa : Option Addr} {sc g : Nat} {l : List UInt8} (hrow : RowAt W sa (l.map bv)) (hl : l.length = 8) {v : Value} (hb : Boxed W g 220 v) :
    Calls Tryz.prog 164 #[.slice sa 8 sc, .pointer (some ⟨g, 0, none⟩)] W fun e W' => e = .returned (.int .i64 0) ∧ W' = W.setCell ⟨g, 0, none⟩ (.int .u64 (unbe l : Int)) := by
  have hN := number_any (c := sc) hrow (by omega)
  rw [hl] at hN
  have hlt := unbe_lt l
  rw [hl] at hlt
  have hlt2 : unbe l < 18446744073709551616 := hlt
  have c0 := hb.cell
  have z0 := hb.frozen
  have hw : IntKind.u64.wrap (unbe l : Int) = (unbe l : Int) := by rw [show IntKind.u64.wrap (unbe l : Int) = (unbe l : Int) % 18446744073709551616 from by simp [IntKind.wrap, IntKind.bits, IntKind.signed]]; omega
  obtain ⟨u, hu⟩ : ∃ u, unbe l = u := ⟨_, rfl⟩
  rw [hu] at hN hw ⊢
  have hgl := hb.lt
  clear hlt hlt2 hu hl
  have hu0 : (0 : Int) ≤ (u : Int) := by omega
  go_enter Tryz.func164, Tryz.ntmps164
  go_wp2_with (go_at_call 127; refine hN.mono ?_; rintro _ w2 ⟨rfl, rfl⟩)
  go_ret
  exact ⟨rfl, rfl⟩
set_option maxRecDepth 100000 in
set_option maxHeartbeats 2000000 in
theorem take_uint64 (h : RdAt w p a c b k) : Calls Tryz.prog 124 #[.pointer (some ⟨p, 0, none⟩)] w fun e w' => e = .returned (.tuple #[.int .u64 (takeX b k 8 : Int), .int .i64 (takeE b k 8)]) ∧ RdAt w' p a c b (takeP b k 8) ∧ Chg (· = p) w w' := by
  have cW := width64_any
  have hpl := heap_lt h.cells
  obtain ⟨w1, hw1⟩ : ∃ w1, w.alloc (.cells #[.int .u64 0] 220) = w1 := ⟨_, rfl⟩
  have hb1 : Below w.heap.size w w1 := by rw [← hw1]; exact below_alloc _ _
  have hz1 : w1.heap.size = w.heap.size + 1 := by rw [← hw1]; simp
  have hbx : Boxed w1 w.heap.size 220 (.int .u64 0) := by rw [← hw1]; exact Boxed.new _ _ _
  have h1 := h.below hb1
  have HW := Lib.hid hw1
  have HZ := Lib.hid hz1
  clear hw1 hz1
  unfold takeX takeP takeE
  by_cases hn : k + 8 ≤ b.length
  · rw [if_pos hn, if_pos hn, if_pos hn]
    have hll : ((b.drop k).take 8).length = 8 := by simp; omega
    have hnx := next_any h1 (n := 8) hn 164 #[.pointer (some ⟨w.heap.size, 0, none⟩)] enters_take_uint64 (fun er W' => er = 0 ∧ RdAt W' p a c b (k + 8) ∧ Boxed W' w.heap.size 220 (.int .u64 (unbe ((b.drop k).take 8) : Int)) ∧ Chg (· = p) w W')
      (fun W hc hR => by
        have hbW : Boxed W w.heap.size 220 (.int .u64 0) := hc.obj hbx (by omega)
        refine (take1_uint64 (sc := c - k) (hR.part k 8) hll hbW).mono ?_
        rintro _ W' ⟨rfl, rfl⟩
        have hs : Chg (· = w.heap.size) W (W.setCell ⟨w.heap.size, 0, none⟩ (.int .u64 (unbe ((b.drop k).take 8) : Int))) := Chg.set _ rfl
        have hz := hc.size
        have hwW : Chg (· = p) w W := (Chg.of_below hb1).trans hc (fun _ h _ => h)
        refine ⟨0, rfl, rfl, hR.moved hs (fun hne y e => by have := h.lt hne e; omega) (hs.obj hR.cells (by omega)) hR.le, Boxed.set _ hbW, hwW.trans hs (fun x hx hlt => by have hx : x = w.heap.size := hx; omega)⟩)
      (fun er w' ⟨e, _⟩ h0 => absurd e h0)
    obtain ⟨u, hu⟩ : ∃ u, unbe ((b.drop k).take 8) = u := ⟨_, rfl⟩
    rw [hu] at hnx ⊢
    clear hu hll
    go_enter Tryz.func124, Tryz.ntmps124
    go_wp2_with (first | rw [HW.out] | (go_at_call 163; refine (cW _).mono ?_; rintro _ wz ⟨rfl, rfl⟩) | (go_at_call 125; refine hnx.mono ?_; rintro _ w2 ⟨er, w3, rfl, ⟨rfl, hR3, hb3, hc3⟩, hor⟩; obtain rfl : w2 = w3 := (by rcases hor with h | h; exact h.2; exact absurd rfl h.1); have d0 := hb3.cell; clear hor))
    go_ret2
    exact ⟨rfl, hR3, hc3⟩
  · rw [if_neg hn, if_neg hn, if_neg hn]
    have hns := fun fv => next_short h1 (n := 8) (by omega) (by omega) fv
    have c0 := hbx.cell
    have hgl := hbx.lt
    clear hn
    go_enter Tryz.func124, Tryz.ntmps124
    go_wp2_with (first | rw [HW.out] | (go_at_call 163; refine (cW _).mono ?_; rintro _ wz ⟨rfl, rfl⟩) | (go_at_call 125; refine (hns _).mono ?_; rintro _ w2 ⟨rfl, hb2⟩; have d0 := (hb2.cell (p := ⟨w.heap.size, 0, none⟩) hgl).trans c0))
    go_ret2
    exact ⟨rfl, h1.below hb2, (Chg.of_below hb1).trans (Chg.of_below (O := fun _ => False) hb2) (fun _ h _ => h.elim)⟩
end

end Go.Proofs.YtlmdpcaikhdenaaGreat
/- Wire: signed numbers and raw bytes that are read; the end. -/
namespace Go.Proofs.YtlmdpcaikhdenaaGreat
open Go.RowKit Go.Maps

section
variable {w w' : World} {p c k : Nat} {a : Option Addr} {b : List UInt8}
/-- a number of 64 bits as one with a sign -/
def sgn (x : Nat) : Int := IntKind.i64.wrap (x : Int)
theorem signed_any (h : RdAt w p a c b k) : Calls Tryz.prog 79 #[.pointer (some ⟨p, 0, none⟩)] w fun e w' => e = .returned (.tuple #[.int .i64 (sgn (takeX b k 8)), .int .i64 (takeE b k 8)]) ∧ RdAt w' p a c b (takeP b k 8) ∧ Chg (· = p) w w' := by
  have hT := take_uint64 h
  obtain ⟨u, hu⟩ : ∃ u, takeX b k 8 = u := ⟨_, rfl⟩
  obtain ⟨er, he⟩ : ∃ er, takeE b k 8 = er := ⟨_, rfl⟩
  obtain ⟨pl, hp⟩ : ∃ pl, takeP b k 8 = pl := ⟨_, rfl⟩
  rw [hu, he, hp] at hT ⊢
  have hs : IntKind.i64.wrap (u : Int) = sgn u := rfl
  obtain ⟨sv, hsv⟩ : ∃ sv, sgn u = sv := ⟨_, rfl⟩
  rw [hsv] at hs ⊢
  clear hsv hu he hp h
  go_enter Tryz.func79, Tryz.ntmps79
  go_wp2_with (go_at_call 124; refine hT.mono ?_; rintro _ w2 ⟨rfl, hR, hc⟩)
  go_ret2
  exact ⟨rfl, hR, hc⟩
theorem end_any (h : RdAt w p a c b k) : Calls Tryz.prog 81 #[.pointer (some ⟨p, 0, none⟩)] w fun e w' => e = .returned (.int .i64 (if k < b.length then 111 else 0)) ∧ Below w.heap.size w w' := by
  have hl := left_any5 h
  have h1 := h.le
  by_cases hk : k < b.length
  · rw [if_pos hk]
    have g1 : decide (0 < (b.length : Int) - (k : Int)) = true := by simp; omega
    go_enter Tryz.func81, Tryz.ntmps81
    go_wp2_with (go_at_call 128; refine hl.mono ?_; rintro _ w1 ⟨rfl, hb1⟩)
    go_ret
    exact ⟨rfl, hb1⟩
  · rw [if_neg hk]
    have g1 : decide (0 < (b.length : Int) - (k : Int)) = false := by simp; omega
    go_enter Tryz.func81, Tryz.ntmps81
    go_wp2_with (go_at_call 128; refine hl.mono ?_; rintro _ w1 ⟨rfl, hb1⟩)
    go_ret
    exact ⟨rfl, hb1⟩
theorem enters_raw1 : enters 165 := fun args w => by go_simp
set_option maxHeartbeats 1000000 in
theorem raw1_any {W : World} {sa : Option Addr} {sc g : Nat} {l : List UInt8} (hrow : RowAt W sa (l.map bv)) (hnil : sa = none → sc = 0) (hl : l.length ≤ 140737488355328) {v : Value} (hb : Boxed W g 26 v) :
    Calls Tryz.prog 165 #[.slice sa l.length sc, .pointer (some ⟨g, 0, none⟩)] W fun e W' => e = .returned (.int .i64 0) ∧ ∃ U, BytesIn W' (fun x => W.heap.size ≤ x) U l ∧ Boxed W' g 26 U ∧ Chg (· = g) W W' := by
  have hC := clone_any sa sc l W hnil hrow hl
  have hgl := hb.lt
  have B := Lib.hid hb
  clear hb
  go_enter Tryz.func165, Tryz.ntmps165
  go_wp2_with (go_at_call 70; refine hC.mono ?_; rintro _ w2 ⟨U, rfl, hU, hb2⟩; obtain ⟨ua, uc, rfl, _⟩ := hU.row; have hx2 : Boxed w2 g 26 v := (hb2.block _ hgl).trans B.out; have e0 := hx2.cell; have z0 := hx2.frozen; have hgl2 := hx2.lt)
  go_ret
  have hs : Chg (· = g) w2 (w2.setCell ⟨g, 0, none⟩ (.slice ua l.length uc)) := Chg.set _ rfl
  exact ⟨rfl, _, hU.kept hs (fun x hx e => by have := hx.1; omega) (fun x hx => hx.1), Boxed.set _ hx2, (Chg.of_below hb2).trans hs (fun _ h _ => h)⟩
end

end Go.Proofs.YtlmdpcaikhdenaaGreat
/- Wire: raw bytes and lists of bytes that are read. -/
namespace Go.Proofs.YtlmdpcaikhdenaaGreat
open Go.RowKit Go.Maps

section
variable {w w' : World} {p c k : Nat} {a : Option Addr} {b : List UInt8}
set_option maxRecDepth 100000 in
set_option maxHeartbeats 2000000 in
theorem raw_ok (h : RdAt w p a c b k) {n : Nat} (hn : k + n ≤ b.length) :
    Calls Tryz.prog 129 #[.pointer (some ⟨p, 0, none⟩), .int .i64 (n : Int)] w fun e w' => ∃ U, e = .returned (.tuple #[U, .int .i64 0]) ∧ BytesIn w' (fun x => w.heap.size ≤ x) U ((b.drop k).take n) ∧ RdAt w' p a c b (k + n) ∧ Chg (· = p) w w' := by
  have hpl := heap_lt h.cells
  have hsm := h.small
  obtain ⟨w1, hw1⟩ : ∃ w1, w.alloc (.cells #[.slice none 0 0] 26) = w1 := ⟨_, rfl⟩
  have hb1 : Below w.heap.size w w1 := by rw [← hw1]; exact below_alloc _ _
  have hz1 : w1.heap.size = w.heap.size + 1 := by rw [← hw1]; simp
  have hbx : Boxed w1 w.heap.size 26 (.slice none 0 0) := by rw [← hw1]; exact Boxed.new _ _ _
  have h1 := h.below hb1
  have hll : ((b.drop k).take n).length = n := by simp; omega
  have hnx := next_any h1 (n := n) hn 165 #[.pointer (some ⟨w.heap.size, 0, none⟩)] enters_raw1 (fun er W' => er = 0 ∧ RdAt W' p a c b (k + n) ∧ (∃ U, BytesIn W' (fun x => w.heap.size ≤ x) U ((b.drop k).take n) ∧ Boxed W' w.heap.size 26 U) ∧ Chg (· = p) w W')
    (fun W hc hR => by
      have hbW : Boxed W w.heap.size 26 (.slice none 0 0) := hc.obj hbx (by omega)
      have hz := hc.size
      have hq := raw1_any (sc := c - k) (hR.part k n) (fun e => by have := hR.nil (subAt_none.1 e); omega) (by omega) hbW
      rw [hll] at hq
      refine hq.mono ?_
      rintro _ W' ⟨rfl, U, hU, hB, hs⟩
      have hwW : Chg (· = p) w W := (Chg.of_below hb1).trans hc (fun _ h _ => h)
      exact ⟨0, rfl, rfl, hR.moved hs (fun hne y e => by have := h.lt hne e; omega) (hs.obj hR.cells (by omega)) hR.le, ⟨U, hU.kept (Chg.refl (fun _ => False) _) (fun _ _ h => h) (fun x hx => by omega), hB⟩, hwW.trans hs (fun x hx hlt => by have hx : x = w.heap.size := hx; omega)⟩)
    (fun er w' ⟨e, _⟩ h0 => absurd e h0)
  have HW := Lib.hid hw1
  clear hw1 hz1 h h1 hll hn hbx
  have hn0 : (0 : Int) ≤ (n : Int) := by omega
  have g0 : decide ((n : Int) < 0) = false := by simp
  go_enter Tryz.func129, Tryz.ntmps129
  go_wp2_with (first | rw [HW.out] | (go_at_call 125; refine hnx.mono ?_; rintro _ w2 ⟨er, w3, rfl, ⟨rfl, hR3, ⟨U, hU, hb3⟩, hc3⟩, hor⟩; obtain rfl : w2 = w3 := (by rcases hor with h | h; exact h.2; exact absurd rfl h.1); have d0 := hb3.cell; clear hor))
  go_ret2
  exact ⟨_, rfl, hU, hR3, hc3⟩
/-- the list at k: how many bytes it says it has; is it there? -/
def lstM (b : List UInt8) (k : Nat) : Nat := unbe ((b.drop k).take 2)
def lstOk (b : List UInt8) (k : Nat) : Prop := k + 2 ≤ b.length ∧ lstM b k ≤ 4096 ∧ k + 2 + lstM b k ≤ b.length
theorem enters_list1 : enters 126 := fun args w => by go_simp
set_option maxRecDepth 100000 in
set_option maxHeartbeats 2000000 in
/-- the closure, where the list is there -/
theorem list1_ok {W : World} {sa : Option Addr} {sc gm gr go : Nat} {l : List UInt8} (hR : RdAt W p a c b k) (hrow : RowAt W sa (l.map bv)) (hl : l.length = 2) (hm : unbe l ≤ 4096) (hk : k + unbe l ≤ b.length)
    (hbm : Boxed W gm 3 (.int .i64 4096)) (hbr : Boxed W gr 172 (.pointer (some ⟨p, 0, none⟩))) {v : Value} (hbo : Boxed W go 26 v) (hgo : go ≠ p) :
    Calls Tryz.prog 126 #[.slice sa 2 sc, .pointer (some ⟨gm, 0, none⟩), .pointer (some ⟨gr, 0, none⟩), .pointer (some ⟨go, 0, none⟩)] W fun e W' => e = .returned (.int .i64 0) ∧ ∃ U, BytesIn W' (fun x => W.heap.size ≤ x) U ((b.drop k).take (unbe l)) ∧ W'.heap[p]? = some (.cells #[.slice a b.length c, .int .i64 ((k + unbe l : Nat) : Int)] 219 (0, 0)) ∧ Boxed W' go 26 U ∧ Chg (fun x => x = p ∨ x = go) W W' := by
  have hN := number_any (c := sc) hrow (by omega)
  rw [hl] at hN
  obtain ⟨m, hm'⟩ : ∃ m, unbe l = m := ⟨_, rfl⟩
  rw [hm'] at hN hm hk ⊢
  have hle := left_any5 hR
  have hsm := hR.small
  have hkl := hR.le
  have cm := hbm.cell
  have cr := hbr.cell
  have hgol := hbo.lt
  have hgrl := hbr.lt
  have g1 : decide ((4096 : Int) < (m : Int)) = false := by simp; omega
  have g2 : decide ((b.length : Int) - (k : Int) < (m : Int)) = false := by simp; omega
  have hcv : IntKind.u64.wrap ((b.length : Int) - (k : Int)) = (b.length : Int) - (k : Int) := by rw [show IntKind.u64.wrap ((b.length : Int) - (k : Int)) = ((b.length : Int) - (k : Int)) % 18446744073709551616 from by simp [IntKind.wrap, IntKind.bits, IntKind.signed]]; omega
  have hcm : IntKind.i64.wrap (m : Int) = (m : Int) := Go.IntWalk.i64_in _ (by omega)
  obtain ⟨ln, hln⟩ : ∃ ln, (b.drop k).take m = ln := ⟨_, rfl⟩
  rw [hln]
  have HLN := Lib.hid hln
  have H := Lib.hid hR
  have HB := Lib.hid hbo
  clear hln
  clear hR hbo hbm hbr hl hm' hrow
  go_enter Tryz.func126, Tryz.ntmps126
  go_wp2_with (first
    | (go_at_call 127; refine hN.mono ?_; rintro _ w2 ⟨rfl, rfl⟩)
    | (go_at_call 128; refine hle.mono ?_; rintro _ w3 ⟨rfl, hb3⟩; have cr3 := (hb3.cell (p := ⟨gr, 0, none⟩) hgrl).trans cr; have hraw := raw_ok (H.out.below hb3) (n := m) hk; rw [HLN.out] at hraw; have hs3 := hb3.size)
    | (go_at_call 129; refine hraw.mono ?_; rintro _ w4 ⟨U, rfl, hU, hR4, hc4⟩; obtain ⟨ua, uc, rfl, _⟩ := hU.row; have hx4 : Boxed w4 go 26 v := hc4.obj ((hb3.block _ hgol).trans HB.out) hgo; have e0 := hx4.cell; have z0 := hx4.frozen; have hl4 := hx4.lt))
  go_ret
  have hs : Chg (· = go) w4 (w4.setCell ⟨go, 0, none⟩ (.slice ua ln.length uc)) := Chg.set _ rfl
  exact ⟨rfl, _, hU.kept hs (fun x hx e => by omega) (fun x hx => by omega), hs.obj hR4.cells (by omega), Boxed.set _ hx4, (((Chg.of_below hb3).trans hc4 (fun x h _ => Or.inl h)).trans hs (fun x h _ => Or.inr h))⟩
end

end Go.Proofs.YtlmdpcaikhdenaaGreat
/- Wire: lists of bytes that are read. -/
namespace Go.Proofs.YtlmdpcaikhdenaaGreat
open Go.RowKit Go.Maps

section
variable {w w' : World} {p c k : Nat} {a : Option Addr} {b : List UInt8}
set_option maxRecDepth 100000 in
set_option maxHeartbeats 2000000 in
/-- the closure, where the list is too long, or not there whole -/
theorem list1_bad {W : World} {sa : Option Addr} {sc gm gr go : Nat} {l : List UInt8} (hR : RdAt W p a c b k) (hrow : RowAt W sa (l.map bv)) (hl : l.length = 2) (hm : ¬ (unbe l ≤ 4096 ∧ k + unbe l ≤ b.length))
    (hbm : Boxed W gm 3 (.int .i64 4096)) (hbr : Boxed W gr 172 (.pointer (some ⟨p, 0, none⟩))) :
    Calls Tryz.prog 126 #[.slice sa 2 sc, .pointer (some ⟨gm, 0, none⟩), .pointer (some ⟨gr, 0, none⟩), .pointer (some ⟨go, 0, none⟩)] W fun e W' => ∃ er : Int, e = .returned (.int .i64 er) ∧ er ≠ 0 ∧ Below W.heap.size W W' := by
  have hN := number_any (c := sc) hrow (by omega)
  have hlt := unbe_lt l
  rw [hl] at hN hlt
  have hlt2 : unbe l < 65536 := hlt
  obtain ⟨m, hm'⟩ : ∃ m, unbe l = m := ⟨_, rfl⟩
  rw [hm'] at hN hm hlt2
  have hle := left_any5 hR
  have hsm := hR.small
  have hkl := hR.le
  have cm := hbm.cell
  have cr := hbr.cell
  clear hR hbm hbr hl hm' hrow hlt
  by_cases h1 : m ≤ 4096
  · have g1 : decide ((4096 : Int) < (m : Int)) = false := by simp; omega
    have g2 : decide ((b.length : Int) - (k : Int) < (m : Int)) = true := by simp; omega
    have hcv : IntKind.u64.wrap ((b.length : Int) - (k : Int)) = (b.length : Int) - (k : Int) := by rw [show IntKind.u64.wrap ((b.length : Int) - (k : Int)) = ((b.length : Int) - (k : Int)) % 18446744073709551616 from by simp [IntKind.wrap, IntKind.bits, IntKind.signed]]; omega
    go_enter Tryz.func126, Tryz.ntmps126
    go_wp2_with (first
      | (go_at_call 127; refine hN.mono ?_; rintro _ w2 ⟨rfl, rfl⟩)
      | (go_at_call 128; refine hle.mono ?_; rintro _ w3 ⟨rfl, hb3⟩))
    go_ret
    exact ⟨110, rfl, by decide, hb3⟩
  · have g1 : decide ((4096 : Int) < (m : Int)) = true := by simp; omega
    go_enter Tryz.func126, Tryz.ntmps126
    go_wp2_with (go_at_call 127; refine hN.mono ?_; rintro _ w2 ⟨rfl, rfl⟩)
    go_ret
    exact ⟨3, rfl, by decide, Below.refl _ _⟩
theorem lst_len {b : List UInt8} {k : Nat} (h : k + 2 ≤ b.length) : ((b.drop k).take 2).length = 2 := by simp; omega
/-- three boxes, one behind the other -/
theorem boxes3 (w : World) (t1 t2 t3 : TypeId) (v1 v2 v3 : Value) : ∃ w1, ((w.alloc (.cells #[v1] t1)).alloc (.cells #[v2] t2)).alloc (.cells #[v3] t3) = w1 ∧ Below w.heap.size w w1 ∧ w1.heap.size = w.heap.size + 3 ∧ Boxed w1 w.heap.size t1 v1 ∧ Boxed w1 (w.heap.size + 1) t2 v2 ∧ Boxed w1 (w.heap.size + 1 + 1) t3 v3 := by
  refine ⟨_, rfl, ((below_alloc w _).alloc (by simp) _).alloc (by simp; omega) _, by simp, ((Boxed.new w t1 v1).alloc _).alloc _, ?_, ?_⟩
  · have := (Boxed.new (w.alloc (.cells #[v1] t1)) t2 v2).alloc (.cells #[v3] t3)
    rwa [World.size_alloc] at this
  · have := Boxed.new ((w.alloc (.cells #[v1] t1)).alloc (.cells #[v2] t2)) t3 v3
    rwa [World.size_alloc, World.size_alloc] at this
set_option maxRecDepth 100000 in
set_option maxHeartbeats 4000000 in
theorem list_ok (h : RdAt w p a c b k) (hk : lstOk b k) :
    Calls Tryz.prog 80 #[.pointer (some ⟨p, 0, none⟩), .int .i64 2, .int .i64 4096] w fun e w' => ∃ U, e = .returned (.tuple #[U, .int .i64 0]) ∧ BytesIn w' (fun x => w.heap.size ≤ x) U ((b.drop (k + 2)).take (lstM b k)) ∧ RdAt w' p a c b (k + 2 + lstM b k) ∧ Chg (· = p) w w' := by
  have hpl := heap_lt h.cells
  obtain ⟨w1, hw1, hb1, hz1, hbr, hbm, hbo⟩ := boxes3 w 172 3 26 (.pointer (some ⟨p, 0, none⟩)) (.int .i64 4096) (.slice none 0 0)
  have h1 := h.below hb1
  obtain ⟨hk1, hk2, hk3⟩ := hk
  have hll := lst_len hk1
  have hnx := next_any h1 (n := 2) hk1 126 #[.pointer (some ⟨w.heap.size + 1, 0, none⟩), .pointer (some ⟨w.heap.size, 0, none⟩), .pointer (some ⟨w.heap.size + 1 + 1, 0, none⟩)] enters_list1 (fun er W' => er = 0 ∧ RdAt W' p a c b (k + 2 + lstM b k) ∧ (∃ U, BytesIn W' (fun x => w.heap.size ≤ x) U ((b.drop (k + 2)).take (lstM b k)) ∧ Boxed W' (w.heap.size + 1 + 1) 26 U) ∧ Chg (· = p) w W')
    (fun W hc hR => by
      have hz := hc.size
      refine (list1_ok (sc := c - k) hR (hR.part k 2) hll hk2 hk3 (hc.obj hbm (by omega)) (hc.obj hbr (by omega)) (hc.obj hbo (by omega)) (by omega)).mono ?_
      rintro _ W' ⟨rfl, U, hU, hx, hB, hs⟩
      have hwW : Chg (· = p) w W := (Chg.of_below hb1).trans hc (fun _ h _ => h)
      exact ⟨0, rfl, rfl, hR.moved hs (fun hne y e => by have := h.lt hne e; have := h.off y e; omega) hx hk3, ⟨U, hU.kept (Chg.refl (fun _ => False) _) (fun _ _ h => h) (fun x hx => by omega), hB⟩, hwW.trans hs (fun x hx hlt => by rcases hx with hx | hx; exact hx; omega)⟩)
    (fun er w' ⟨e, _⟩ h0 => absurd e h0)
  have HW := Lib.hid hw1
  have cr := hbr.cell
  have cm := hbm.cell
  have hs1 : w.heap.size < w1.heap.size := by omega
  have hs2 : w.heap.size + 1 < w1.heap.size := by omega
  obtain ⟨LL, hL⟩ : ∃ LL, (b.drop (k + 2)).take (lstM b k) = LL := ⟨_, rfl⟩
  obtain ⟨KK, hK⟩ : ∃ KK, k + 2 + lstM b k = KK := ⟨_, rfl⟩
  rw [hL, hK] at hnx ⊢
  clear hw1 hz1 h h1 hll hbr hbm hbo hk1 hk2 hk3 hL hK
  go_enter Tryz.func80, Tryz.ntmps80
  go_wp2_with (first | rw [HW.out] | (go_at_call 125; refine hnx.mono ?_; rintro _ w2 ⟨er, w3, rfl, ⟨rfl, hR3, ⟨U, hU, hb3⟩, hc3⟩, hor⟩; obtain rfl : w2 = w3 := (by rcases hor with h | h; exact h.2; exact absurd rfl h.1); have d0 := hb3.cell; clear hor))
  go_ret2
  exact ⟨_, rfl, hU, hR3, hc3⟩
set_option maxRecDepth 100000 in
set_option maxHeartbeats 4000000 in
theorem list_bad (h : RdAt w p a c b k) (hk : ¬ lstOk b k) :
    Calls Tryz.prog 80 #[.pointer (some ⟨p, 0, none⟩), .int .i64 2, .int .i64 4096] w fun e w' => ∃ er : Int, e = .returned (.tuple #[.slice none 0 0, .int .i64 er]) ∧ er ≠ 0 ∧ RdAt w' p a c b k ∧ Chg (· = p) w w' := by
  have hpl := heap_lt h.cells
  have hkl := h.le
  obtain ⟨w1, hw1, hb1, hz1, hbr, hbm, hbo⟩ := boxes3 w 172 3 26 (.pointer (some ⟨p, 0, none⟩)) (.int .i64 4096) (.slice none 0 0)
  have h1 := h.below hb1
  have HW := Lib.hid hw1
  have cr := hbr.cell
  have cm := hbm.cell
  have co := hbo.cell
  have hs1 : w.heap.size < w1.heap.size := by omega
  have hs2 : w.heap.size + 1 < w1.heap.size := by omega
  have hs3 : w.heap.size + 1 + 1 < w1.heap.size := by omega
  by_cases hk1 : k + 2 ≤ b.length
  · have hll := lst_len hk1
    have hm : ¬ (unbe ((b.drop k).take 2) ≤ 4096 ∧ k + 2 + unbe ((b.drop k).take 2) ≤ b.length) := fun hm => hk ⟨hk1, hm.1, hm.2⟩
    have hnx := next_any h1 (n := 2) hk1 126 #[.pointer (some ⟨w.heap.size + 1, 0, none⟩), .pointer (some ⟨w.heap.size, 0, none⟩), .pointer (some ⟨w.heap.size + 1 + 1, 0, none⟩)] enters_list1 (fun er W' => er ≠ 0 ∧ RdAt W' p a c b (k + 2) ∧ Boxed W' (w.heap.size + 1 + 1) 26 (.slice none 0 0) ∧ Chg (· = p) w W')
      (fun W hc hR => by
        have hz := hc.size
        have hbW : Boxed W (w.heap.size + 1 + 1) 26 (.slice none 0 0) := hc.obj hbo (by omega)
        refine (list1_bad (sc := c - k) (go := w.heap.size + 1 + 1) hR (hR.part k 2) hll hm (hc.obj hbm (by omega)) (hc.obj hbr (by omega))).mono ?_
        rintro _ W' ⟨er, rfl, he, hb⟩
        have hwW : Chg (· = p) w W := (Chg.of_below hb1).trans hc (fun _ h _ => h)
        exact ⟨er, rfl, he, hR.below hb, (hb.block _ hbW.lt).trans hbW, hwW.trans (Chg.of_below (O := fun _ => False) hb) (fun _ h _ => h.elim)⟩)
      (fun er w' ⟨_, hR, _⟩ _ => ⟨_, hR.cells⟩)
    have H := Lib.hid h
    clear hw1 hz1 h h1 hll hbr hbm hbo hk1 hm hk
    go_enter Tryz.func80, Tryz.ntmps80
    go_wp2_with (first | rw [HW.out] | (go_at_call 125; refine hnx.mono ?_; rintro _ w2 ⟨er, w3, rfl, ⟨he, hR3, hb3, hc3⟩, hor⟩; obtain rfl : w2 = w3.setCell ⟨p, 1, none⟩ (.int .i64 (k : Int)) := (by rcases hor with h | h; exact absurd h.1 he; exact h.2); have hsp : Chg (· = p) w3 (w3.setCell ⟨p, 1, none⟩ (.int .i64 (k : Int))) := Chg.set _ rfl; have hb4 : Boxed (w3.setCell ⟨p, 1, none⟩ (.int .i64 (k : Int))) (w.heap.size + 1 + 1) 26 (.slice none 0 0) := hsp.obj hb3 (by omega); have d0 := hb4.cell; have hR4 : RdAt (w3.setCell ⟨p, 1, none⟩ (.int .i64 (k : Int))) p a c b k := hR3.moved hsp (fun _ y e => hR3.off y e) (heap_set_cells (i := 1) (.int .i64 (k : Int)) hR3.cells) hkl; clear hor; have HE := Lib.hid he; clear he; have HS := Lib.hid hsp; clear hsp; generalize w3.setCell ⟨p, 1, none⟩ (.int .i64 (k : Int)) = w5 at *))
    go_ret2
    exact ⟨er, rfl, HE.out, hR4, hc3.trans HS.out (fun _ h _ => h)⟩
  · have hns := fun fv => next_short h1 (n := 2) (by omega) (by omega) fv
    clear hk hk1 hbr hbm hbo hw1 hz1
    go_enter Tryz.func80, Tryz.ntmps80
    go_wp2_with (first | rw [HW.out] | (go_at_call 125; refine (hns _).mono ?_; rintro _ w2 ⟨rfl, hb2⟩; have d0 := (hb2.cell (p := ⟨w.heap.size + 1 + 1, 0, none⟩) hs3).trans co))
    go_ret2
    exact ⟨110, rfl, by decide, h1.below hb2, (Chg.of_below hb1).trans (Chg.of_below (O := fun _ => False) hb2) (fun _ h _ => h.elim)⟩
end

end Go.Proofs.YtlmdpcaikhdenaaGreat
