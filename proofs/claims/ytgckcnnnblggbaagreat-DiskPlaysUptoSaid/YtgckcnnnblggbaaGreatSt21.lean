/- Texts of this claim, one behind the other: RdD, RdE, RdF. -/
import Derived.Test.YtgckcnnnblggbaaGreatSt20
import Derived.Deep.RegionHeld3
set_option linter.unusedSimpArgs false
set_option linter.unusedVariables false
/- The document's disk: copied, Laid. -/
namespace Go.Proofs.YtgckcnnnblggbaaGreat
open Go.RowKit Go.Maps

theorem one_bv (l : List UInt8) : ∀ u ∈ l.map bv, u.oneCell' = true := by
  intro u hu
  obtain ⟨_, _, rfl⟩ := List.mem_map.1 hu
  rfl
set_option maxRecDepth 100000 in
set_option maxHeartbeats 1000000 in
theorem rcopied_own (a : Option Addr) (c : Nat) (l : List UInt8) (w : World) (hnil : a = none → c = 0) (hrow : RowAt w a (l.map bv)) (hl : l.length ≤ 140737488355328) :
    Calls Tryz.prog 33 #[.slice a l.length c] w fun e w' => ∃ v, e = .returned v ∧ w'.ownsRow w.heap.size 5 1 v l.length (l.map bv) ∧ Below w.heap.size w w' := by
  obtain ⟨i0, hi, hz0, hz1, hz2⟩ := info_parts Tryz.info5
  have hm : maxLen = 9223372036854775807 := rfl
  go_enter Tryz.func33, Tryz.ntmps33
  go_wp2_with (at_builtin; go_loud (refine wpList_append_any _ rfl (.const (.slice none 0 0)) (.tmp 3) 36 rfl w.heap.size 5 i0 (.int .u8 0) 1 Tryz.underlying36 hi hz0 hz1 hz2 rfl (.slice none 0 0) 0 [] rfl (World.ownsRow_nil _ _ _ _) a l.length c (l.map bv) rfl (by simp) hnil hrow (one_bv l) (by omega) (by omega) (Nat.le_refl _) ?_))
  intro v1 w1 hown1 hg1
  have hown1 : w1.ownsRow w.heap.size 5 1 v1 l.length (l.map bv) := by simpa using hown1
  have hb : Below w.heap.size w w1 := (Below.refl _ _).grown hg1 (Nat.le_refl _) (by intro k hk; cases hk)
  go_wp2
  go_ret
  exact ⟨_, rfl, hown1, hb⟩

/-- the length of a slice -/
def lenOf : Value → Nat
  | .slice _ n _ => n
  | _ => 0
/-- what is laid, i bytes of it, upon P -/
def laidP (P : List UInt8) (place : Nat) (d : List UInt8) (i : Nat) : List UInt8 := P.take place ++ d.take i ++ P.drop (place + i)
theorem laidP_len {P : List UInt8} {place : Nat} {d : List UInt8} {i : Nat} (hp : place ≤ P.length) (hi : i ≤ d.length) : (laidP P place d i).length = max P.length (place + i) := by
  unfold laidP
  simp only [List.length_append, List.length_take, List.length_drop]; omega
theorem laidP_zero {P : List UInt8} {place : Nat} {d : List UInt8} : laidP P place d 0 = P := by
  unfold laidP; simp
theorem laidP_set {P : List UInt8} {place : Nat} {d : List UInt8} {i : Nat} (hp : place ≤ P.length) (hi : i < d.length) (hl : place + i < (laidP P place d i).length) : (laidP P place d i).set (place + i) d[i] = laidP P place d (i + 1) := by
  rw [laidP_len hp (by omega)] at hl
  unfold laidP
  apply List.ext_getElem?
  intro j
  simp only [List.getElem?_set, List.getElem?_append, List.length_append, List.length_take, List.getElem?_take, List.getElem?_drop]
  grind
theorem laidP_push {P : List UInt8} {place : Nat} {d : List UInt8} {i : Nat} (hp : place ≤ P.length) (hi : i < d.length) (hl : ¬ place + i < (laidP P place d i).length) : laidP P place d i ++ [d[i]] = laidP P place d (i + 1) := by
  rw [laidP_len hp (by omega)] at hl
  unfold laidP
  rw [List.drop_of_length_le (by omega), List.drop_of_length_le (by omega), List.take_succ_eq_append_getElem hi]
  simp
theorem laidP_is {b : List UInt8} {x : Wr} {n : Nat} (hc : x.cut = false) (hn : n ≠ 0) : laid b x n = laidP (b ++ List.replicate (x.place - b.length) 0) x.place x.data n := by
  unfold laid laidP
  rw [hc, if_neg (by simp), if_neg hn, List.drop_append]
  congr 1
  rw [show List.drop (x.place + n - b.length) (List.replicate (x.place - b.length) (0 : UInt8)) = [] from List.drop_eq_nil_of_le (by simp; omega), List.append_nil]
/-- a pending write in its box, as an argument -/
def WrArg (w : World) (R : Nat → Prop) (v : Value) (x : Wr) : Prop := ∃ u, v = .agg #[.int .i64 (x.file : Int), .bool x.cut, .int .i64 (x.place : Int), u] ∧ BytesIn w R u x.data

set_option maxRecDepth 100000 in
set_option maxHeartbeats 8000000 in
theorem rLaid_any {w : World} {R : Nat → Prop} {vb vx : Value} {b : List UInt8} {x : Wr} {n : Nat} (hb : BytesIn w R vb b) (hx : WrArg w R vx x) (hn : n ≤ x.data.length) (hbl : b.length ≤ maxFile) (hxl : x.place + x.data.length ≤ maxFile) :
    Calls Tryz.prog 61 #[vb, vx, .int .i64 (n : Int)] w fun e w' => ∃ v, e = .returned v ∧ BytesIn w' (fun k => R k ∨ NewIn w w' k) v (laid b x n) ∧ Below w.heap.size w w' := by
  have hm : maxLen = 9223372036854775807 := rfl
  have hmf : maxFile = 1099511627776 := rfl
  obtain ⟨i0, hi, hz0, hz1, hz2⟩ := info_parts Tryz.info5
  obtain ⟨u, rfl, hu⟩ := hx
  obtain ⟨da, dc, rfl, hd1, hd2, hdrow⟩ := hu.row
  obtain ⟨ba, bc, rfl, hb1, hb2, hbrow⟩ := hb.row
  have hbs := hb.kept (O := fun _ => False) (R' := R) (w' := w) (Chg.refl _ _) (fun _ _ h => h) (fun _ h => h)
  have hbk : ∀ W, Below w.heap.size w W → BytesIn W (fun k => R k ∨ NewIn w W k) (.slice ba b.length bc) b := fun W hW => hb.kept (O := fun _ => False) (Chg.of_below hW) (fun _ _ h => h) (fun _ h => .inl h)
  have HBK := Lib.hid hbk; clear hbk hbs
  obtain ⟨file, cut, place, data⟩ := x
  simp only at hn hxl hd1 hdrow ⊢
  obtain ⟨W0, hW0⟩ : ∃ W0, w.alloc (.cells #[.int .i64 (file : Int), .bool cut, .int .i64 (place : Int), .slice da data.length dc] 124) = W0 := ⟨_, rfl⟩
  have hbW : Below w.heap.size w W0 := by rw [← hW0]; exact below_alloc _ _
  have hbox : W0.heap[w.heap.size]? = some (.cells #[.int .i64 (file : Int), .bool cut, .int .i64 (place : Int), .slice da data.length dc] 124 (0, 0)) := by rw [← hW0]; exact World.alloc_heap_new w _
  have hsz0 : W0.heap.size = w.heap.size + 1 := by rw [← hW0]; simp
  have c1 := cell_of_heap hbox (i := 1) (v := .bool cut) (by rfl)
  have c2 := cell_of_heap hbox (i := 2) (v := .int .i64 (place : Int)) (by rfl)
  have c3 := cell_of_heap hbox (i := 3) (v := .slice da data.length dc) (by rfl)
  cases cut with
  | true =>
    have e1 : laid b ⟨file, true, place, data⟩ n = b.take place := rfl
    rw [e1]
    by_cases hlt : place < b.length
    · have j1 : (place : Int) < (b.length : Int) := by omega
      have hsl := run_slice_hi (P := Tryz.prog) 36 5 Tryz.underlying36 Tryz.sizeOf5 ba b.length bc place (by omega)
      have htl : (b.take place).length = place := by rw [List.length_take]; omega
      have hcp := rcopied_own ba bc (b.take place) W0 hb2 (by rw [List.map_take]; exact (hbrow.take _).below hbW) (by omega)
      rw [htl] at hcp
      clear htl e1
      go_enter Tryz.func61, Tryz.ntmps61
      go_wp2_with (first | rw [hW0] | (go_at_call 33; refine hcp.mono ?_; rintro _ w1 ⟨v1, rfl, ho1, hb1⟩))
      go_ret
      have hbt : Below w.heap.size w w1 := hbW.trans (hb1.mono hbW.size)
      exact ⟨_, rfl, BytesIn.of_owns ho1 (fun k h1 h2 => .inr ⟨by have := hbW.size; omega, h2⟩), hbt⟩
    · have j1 : ¬ (place : Int) < (b.length : Int) := by omega
      have e2 : b.take place = b := List.take_of_length_le (by omega)
      rw [e2]
      have HBK2 := Lib.hid (HBK.out W0 hbW)
      clear e1 e2
      go_enter Tryz.func61, Tryz.ntmps61
      go_wp2_with (first | rw [hW0])
      go_ret
      exact ⟨_, rfl, HBK2.out, hbW⟩
  | false =>
    by_cases hn0 : n = 0
    · subst hn0
      have HBK2 := Lib.hid (HBK.out W0 hbW)
      have e1 : laid b ⟨file, false, place, data⟩ 0 = b := rfl
      rw [e1]
      clear e1
      go_enter Tryz.func61, Tryz.ntmps61
      go_wp2_with (first | rw [hW0])
      go_ret
      exact ⟨_, rfl, HBK2.out, hbW⟩
    · have e0 := laidP_is (b := b) (x := ⟨file, false, place, data⟩) rfl hn0
      simp only at e0
      rw [e0]
      clear e0
      obtain ⟨P, hP⟩ : ∃ P, b ++ List.replicate (place - b.length) 0 = P := ⟨_, rfl⟩
      have hPl : P.length = b.length + (place - b.length) := by rw [← hP]; simp
      rw [hP]
      have HP := Lib.hid hP; clear hP
      have HPL := Lib.hid hPl
      have hpp : place ≤ P.length := by omega
      have hPm : P.length ≤ 1099511627776 := by omega
      clear hPl
      have hcp := rcopied_own ba bc b W0 hb2 (hbrow.below hbW) (by omega)
      have e1 : ((n : Int) == 0) = false := by simpa using hn0
      have e2 : ¬ (n : Int) = 0 := by omega
      go_enter Tryz.func61, Tryz.ntmps61
      go_wp2_with (first | rw [hW0] | (go_at_call 33; refine hcp.mono ?_; rintro _ w1 ⟨v1, rfl, ho1, hb1⟩))
      have hbW1 : Below w.heap.size w w1 := hbW.trans (hb1.mono hbW.size)
      go_loopw [7] (fun u wr => ∃ j : Nat, j ≤ place - b.length ∧ wr.ownsRow W0.heap.size 5 1 u (b.length + j) ((b ++ List.replicate j 0).map bv) ∧ Below W0.heap.size W0 wr) (fun u _ => place - lenOf u)
      case atStart => exact ⟨0, by omega, by simpa using ho1, hb1⟩
      case round =>
        obtain ⟨j, hj, hur, hbr⟩ := hrel
        obtain ⟨ua, uc, rfl, _, _⟩ := RowAt.of_owns hur
        have c2r := (hbr.cell (p := ⟨w.heap.size, 2, none⟩) (by show w.heap.size < _; omega)).trans c2
        by_cases hlt : b.length + j < place
        · have j1 : ((b.length + j : Nat) : Int) < (place : Int) := by omega
          go_wp2_with (at_builtin; refine wpList_append_any _ rfl (.tmp 33) (.tmp 34) 36 rfl W0.heap.size 5 i0 (.int .u8 0) 1 Tryz.underlying36 hi hz0 hz1 hz2 rfl _ (b.length + j) _ rfl (World.ownsRow.alloc hur _) (some ⟨wr.heap.size, 0, none⟩) 1 1 [.int .u8 0] rfl rfl (fun h => by cases h) (RowAt.of_row (fun j u hu => cell_new wr _ _ j u (by simpa using hu))) (by simp [Value.oneCell']) (by omega) (by omega) (by rw [World.size_alloc]; have := hbr.size; omega) ?_; intro v2 w2 hv2 hg2; have hb2 : Below W0.heap.size W0 w2 := (hbr.alloc hbr.size (.cells #[.int .u8 0] 5)).grown hg2 (by rw [World.size_alloc]; have := hbr.size; omega) (fun r e => (hur.lt r e).1))
          go_roundw
          case rel => exact ⟨j + 1, by omega, by rw [List.replicate_succ', ← List.append_assoc, List.map_append (l₂ := [0])]; exact hv2, hb2⟩
          case measure => obtain ⟨_, _, rfl, _, _⟩ := RowAt.of_owns hv2; simp [lenOf]; omega
        · have j1 : ¬ ((b.length + j : Nat) : Int) < (place : Int) := by omega
          obtain rfl : j = place - b.length := by omega
          have hPl := HPL.out
          rw [HP.out, ← hPl] at hur
          rw [← hPl] at j1 ⊢
          clear hPl hlt hj
          go_wp2
          go_loopw [7, 8, 9] (fun u i _ wz => ∃ k : Nat, k ≤ n ∧ i = .int .i64 k ∧ wz.ownsRow W0.heap.size 5 1 u (laidP P place data k).length ((laidP P place data k).map bv) ∧ Below W0.heap.size W0 wz) (fun _ i _ _ => n - (RowKit.intOf i).toNat)
          case atStart => exact ⟨0, by omega, rfl, by rw [laidP_zero]; exact hur, hbr⟩
          case round =>
            obtain ⟨k, hk, rfl, huz, hbz⟩ := hrel
            obtain ⟨za, zc, rfl, _, _⟩ := RowAt.of_owns huz
            have c2z := (hbz.cell (p := ⟨w.heap.size, 2, none⟩) (by show w.heap.size < _; omega)).trans c2
            have c3z := (hbz.cell (p := ⟨w.heap.size, 3, none⟩) (by show w.heap.size < _; omega)).trans c3
            have hlen := laidP_len (d := data) hpp (i := k) (by omega)
            by_cases hlt : k < n
            · obtain ⟨gb, go, rfl, hdc⟩ := (hdrow.below (hbW.trans (hbz.mono hbW.size))).at_ (k := k) (by rw [List.length_map]; omega)
              rw [List.getElem_map] at hdc
              have j0 : (0 : Int) ≤ (k : Int) := by omega
              have j2 : (k : Int) < (n : Int) := by omega
              have j3 : (k : Int) < (data.length : Int) := by omega
              have j4 : IntKind.i64.wrap ((place : Int) + (k : Int)) = ((place + k : Nat) : Int) := (Go.IntWalk.i64_in _ (by omega)).trans (by omega)
              have j6 : (0 : Int) ≤ ((place + k : Nat) : Int) := by omega
              by_cases hin : place + k < (laidP P place data k).length
              · have j5 : ((place + k : Nat) : Int) < ((laidP P place data k).length : Int) := by omega
                have hset := laidP_set (d := data) hpp (i := k) (by omega) hin
                have hl2 : (laidP P place data k).length = (laidP P place data (k + 1)).length := by rw [← hset]; simp
                obtain ⟨g, rfl⟩ : ∃ g, za = some ⟨g, 0, none⟩ := by
                  rcases huz.2 with ⟨e, h0⟩ | ⟨g, cap, cur, e, _⟩
                  · omega
                  · cases e; exact ⟨g, rfl⟩
                have hgl := huz.lt g rfl
                obtain ⟨⟨u0, hc0⟩, hf0, hrs⟩ := ownsRow_set huz (g := g) rfl (place + k) hin (bv data[k])
                rw [← List.map_set, hset] at hrs
                have HRS := Lib.hid hrs
                have HL2 := Lib.hid hl2
                have hb2 := hbz.setCell (p := ⟨g, place + k, none⟩) hgl.1 (bv data[k])
                unfold bv at hdc
                clear hrs hl2 hset hlen
                go_wp2
                go_roundw
                case rel => exact ⟨k + 1, by omega, by go_num, by rw [← HL2.out]; exact HRS.out, hb2⟩
                case measure => simp [RowKit.intOf]; omega
              · have j5 : ¬ ((place + k : Nat) : Int) < ((laidP P place data k).length : Int) := by omega
                have hpush := laidP_push (d := data) hpp (i := k) (by omega) hin
                have hl2 : (laidP P place data k).length + 1 = (laidP P place data (k + 1)).length := by rw [← hpush]; simp
                have HL2 := Lib.hid hl2
                have HPU := Lib.hid hpush
                have hbd : (laidP P place data k).length ≤ 2199023255552 := by omega
                unfold bv at hdc
                clear hl2 hpush hlen
                go_wp2_with (at_builtin; refine wpList_append_any _ rfl (.tmp 57) (.tmp 63) 36 rfl W0.heap.size 5 i0 (.int .u8 0) 1 Tryz.underlying36 hi hz0 hz1 hz2 rfl _ (laidP P place data k).length _ rfl (World.ownsRow.alloc huz _) (some ⟨wr.heap.size, 0, none⟩) 1 1 [bv data[k]] rfl rfl (fun h => by cases h) (RowAt.of_row (fun j u hu => cell_new wr _ _ j u (by unfold bv at hu; simpa using hu))) (by simp [Value.oneCell', bv]) (by omega) (by omega) (by rw [World.size_alloc]; have := hbz.size; omega) ?_; intro v2 w2 hv2 hg2; have hb2 : Below W0.heap.size W0 w2 := (hbz.alloc hbz.size (.cells #[bv data[k]] 5)).grown hg2 (by rw [World.size_alloc]; have := hbz.size; omega) (fun r e => (huz.lt r e).1))
                go_roundw
                case rel => exact ⟨k + 1, by omega, by go_num, by rw [← HL2.out, ← HPU.out, List.map_append]; exact hv2, hb2⟩
                case measure => simp [RowKit.intOf]; omega
            · obtain rfl : k = n := by omega
              have j2 : ¬ (k : Int) < (k : Int) := by omega
              clear hlen
              go_wp2
              go_ret
              exact ⟨_, rfl, BytesIn.of_owns huz (fun q h1 h2 => .inr ⟨by have := hbW.size; omega, h2⟩), hbW.trans (hbz.mono hbW.size)⟩

end Go.Proofs.YtgckcnnnblggbaaGreat
/- The document's disk: does: names behind a step. -/
namespace Go.Proofs.YtgckcnnnblggbaaGreat
open Go.RowKit Go.Maps

/-- a pending step of the names, as the document's disk has it: its four cells -/
def encS : NStep → List Value
  | .create k n => [.int .i64 1, .string ⟨k.toArray⟩, .string ⟨#[]⟩, .int .i64 (n : Int)]
  | .rename f t => [.int .i64 2, .string ⟨t.toArray⟩, .string ⟨f.toArray⟩, .int .i64 0]
  | .remove k => [.int .i64 3, .string ⟨k.toArray⟩, .string ⟨#[]⟩, .int .i64 0]
/-- names in a row that nobody writes, in blocks of R -/
def NamedIn (w : World) (R : Nat → Prop) (v : Value) (l : NL) : Prop := NamedAt w 0 v l ∧ ∀ b, v.ownBlock = some b → R b
theorem NamedIn.nil (w : World) (R : Nat → Prop) : NamedIn w R (.slice none 0 0) [] := ⟨World.ownsRow_nil _ _ _ _, fun b h => by cases h⟩
theorem NamedIn.kept {O R R' : Nat → Prop} {w w' : World} {v : Value} {l : NL} (h : NamedIn w R v l) (hc : Chg O w w') (hO : ∀ b, R b → ¬ O b) (hR : ∀ b, R b → R' b) : NamedIn w' R' v l :=
  ⟨hc.row h.1 (fun k hk => hO k (h.2 k hk)), fun b hb => hR b (h.2 b hb)⟩
theorem NamedIn.of_at {w : World} {lo : Nat} {v : Value} {l : NL} {R : Nat → Prop} (h : NamedAt w lo v l) (hR : ∀ b, lo ≤ b → b < w.heap.size → R b) : NamedIn w R v l :=
  ⟨ownsRow_base_le h (Nat.zero_le _), fun b hb => by have := h.lt b hb; exact hR b this.1 this.2⟩

set_option maxRecDepth 100000 in
set_option maxHeartbeats 4000000 in
theorem rdoes_any {w : World} {R : Nat → Prop} {v : Value} {l : NL} (h : NamedIn w R v l) (hr : Rising l) (x : NStep) (hl : l.length ≤ 8388608) :
    Calls Tryz.prog 59 #[v, .agg (encS x).toArray] w fun e w' => ∃ v', e = .returned v' ∧ NamedIn w' (fun b => R b ∨ NewIn w w' b) v' (doStep l x) ∧ Below w.heap.size w w' := by
  obtain ⟨W0, hW0⟩ : ∃ W0, w.alloc (.cells (encS x).toArray 122) = W0 := ⟨_, rfl⟩
  have hbW : Below w.heap.size w W0 := by rw [← hW0]; exact below_alloc _ _
  have hbox : W0.heap[w.heap.size]? = some (.cells (encS x).toArray 122 (0, 0)) := by rw [← hW0]; exact World.alloc_heap_new w _
  have hsz0 : W0.heap.size = w.heap.size + 1 := by rw [← hW0]; simp
  have hN0 := NamedAt.below h.1 hbW
  have hkeep : NamedIn W0 (fun b => R b ∨ NewIn w W0 b) v l := h.kept (O := fun _ => False) (Chg.of_below hbW) (fun _ _ h => h) (fun _ h => .inl h)
  obtain ⟨va, vc, rfl, _⟩ := h.1.at_
  cases x with
  | create k n =>
    unfold encS at hW0 hbox ⊢
    have c0 := cell_of_heap hbox (i := 0) (v := .int .i64 1) (by rfl)
    have c1 := cell_of_heap hbox (i := 1) (v := .string ⟨k.toArray⟩) (by rfl)
    have c3 := cell_of_heap hbox (i := 3) (v := .int .i64 (n : Int)) (by rfl)
    have hcw := rwith_any hN0 hr k n hl
    clear hkeep
    go_enter Tryz.func59, Tryz.ntmps59
    go_wp2_with (first | rw [hW0] | (go_at_call 99; refine hcw.mono ?_; rintro _ w1 ⟨v1, rfl, hv1, hb1⟩))
    go_ret
    exact ⟨_, rfl, NamedIn.of_at hv1 (fun b h1 h2 => .inr ⟨by omega, h2⟩), hbW.trans (hb1.mono hbW.size)⟩
  | remove k =>
    unfold encS at hW0 hbox ⊢
    have c0 := cell_of_heap hbox (i := 0) (v := .int .i64 3) (by rfl)
    have c1 := cell_of_heap hbox (i := 1) (v := .string ⟨k.toArray⟩) (by rfl)
    have hcw := rwithout_any hN0 k (by omega)
    clear hkeep
    go_enter Tryz.func59, Tryz.ntmps59
    go_wp2_with (first | rw [hW0] | (go_at_call 100; refine hcw.mono ?_; rintro _ w1 ⟨v1, rfl, hv1, hb1⟩))
    go_ret
    exact ⟨_, rfl, NamedIn.of_at hv1 (fun b h1 h2 => .inr ⟨by omega, h2⟩), hbW.trans (hb1.mono hbW.size)⟩
  | rename f t =>
    unfold encS at hW0 hbox ⊢
    have c0 := cell_of_heap hbox (i := 0) (v := .int .i64 2) (by rfl)
    have c1 := cell_of_heap hbox (i := 1) (v := .string ⟨t.toArray⟩) (by rfl)
    have c2 := cell_of_heap hbox (i := 2) (v := .string ⟨f.toArray⟩) (by rfl)
    have hmax : maxLen = 9223372036854775807 := rfl
    have hfd := rfind_any hN0 f (by omega)
    cases hq : nlFind l f with
    | none =>
      have e1 : findI l f = -1 := by unfold findI; rw [hq]
      have e2 : doStep l (.rename f t) = l := by simp only [doStep, hq]
      rw [e1] at hfd
      rw [e2]
      have HK := Lib.hid hkeep; clear hkeep hq e1 e2
      go_enter Tryz.func59, Tryz.ntmps59
      go_wp2_with (first | rw [hW0] | (go_at_call 75; refine hfd.mono ?_; rintro _ w1 ⟨rfl, rfl⟩))
      go_ret
      exact ⟨_, rfl, HK.out, hbW⟩
    | some n =>
      have e1 : findI l f = (n : Int) := by unfold findI; rw [hq]
      have e2 : doStep l (.rename f t) = nlPut (nlDel l f) t n := by simp only [doStep, hq]
      rw [e1] at hfd
      rw [e2]
      have j0 : ¬ (n : Int) < 0 := by omega
      have hc1 := fun (W : World) (hW : Below W0.heap.size W0 W) => rwithout_any (hN0.below hW) f (by omega)
      have hc2 := fun (W : World) (lo : Nat) (u : Value) (hu : NamedAt W lo u (nlDel l f)) => rwith_any hu (rising_del hr f) t n (by have := nlDel_le l f; omega)
      clear hkeep hq e1 e2
      go_enter Tryz.func59, Tryz.ntmps59
      go_wp2_with (first | rw [hW0] | (go_at_call 75; refine hfd.mono ?_; rintro _ w1 ⟨rfl, rfl⟩))
      go_region_held3 (fun w' => w'.cell? ⟨w.heap.size, 1, none⟩ = some (.string ⟨t.toArray⟩) ∧ w'.cell? ⟨w.heap.size, 2, none⟩ = some (.string ⟨f.toArray⟩)) (go_keep) (first
        | (go_at_call 100; refine (hc1 _ (by first | exact Below.refl _ _ | exact (Below.refl _ _).drew)).mono ?_; rintro _ w1 ⟨v1, rfl, hv1, hb1⟩; replace hb1 : Below W0.heap.size W0 w1 := ⟨hb1.os, hb1.tape, hb1.output, hb1.size, hb1.block⟩; have d1 := (hb1.cell (p := ⟨w.heap.size, 1, none⟩) (by show w.heap.size < _; omega)).trans c1; have d2 := (hb1.cell (p := ⟨w.heap.size, 2, none⟩) (by show w.heap.size < _; omega)).trans c2)
        | (go_at_call 99; refine (hc2 _ _ _ (by assumption)).mono ?_; rintro _ w2 ⟨v2, rfl, hv2, hb2⟩; have hz1 := hb1.size; replace hb2 : Below w1.heap.size w1 w2 := ⟨hb2.os, hb2.tape, hb2.output, hb2.size, hb2.block⟩; have d3 := (hb2.cell (p := ⟨w.heap.size, 1, none⟩) (by show w.heap.size < _; omega)).trans d1; have d4 := (hb2.cell (p := ⟨w.heap.size, 2, none⟩) (by show w.heap.size < _; omega)).trans d2))
      go_wp2
      go_ret
      have hbt := hbW.trans ((hb1.trans (hb2.mono hb1.size)).mono hbW.size)
      exact ⟨_, rfl, NamedIn.of_at hv2 (fun b h1 h2 => .inr ⟨by have := hb1.size; omega, h2⟩), hbt⟩

end Go.Proofs.YtgckcnnnblggbaaGreat
/- The document's disk in memory. -/
namespace Go.Proofs.YtgckcnnnblggbaaGreat
open Go.RowKit Go.Maps

/-- bytes in a row that nobody writes -/
def RowB (w : World) (R : Nat → Prop) (v : Value) (l : List (List UInt8)) : Prop :=
  ∃ xs : List Value, w.ownsRow 0 36 1 v l.length xs ∧ (∀ (i : Nat) x b, xs[i]? = some x → l[i]? = some b → BytesIn w R x b) ∧ ∀ b, v.ownBlock = some b → R b
theorem RowB.kept {O R R' : Nat → Prop} {w w' : World} {v : Value} {l : List (List UInt8)} (h : RowB w R v l) (hc : Chg O w w') (hO : ∀ b, R b → ¬ O b) (hR : ∀ b, R b → R' b) : RowB w' R' v l := by
  obtain ⟨xs, h1, h2, h3⟩ := h
  exact ⟨xs, hc.row h1 (fun k hk => hO k (h3 k hk)), fun i x b hx hb => (h2 i x b hx hb).kept hc hO hR, fun b hb => hR b (h3 b hb)⟩
/-- pending steps in a row that nobody writes -/
def RowS (w : World) (R : Nat → Prop) (v : Value) (l : List NStep) : Prop := w.ownsRow 0 122 4 v l.length ((l.map encS).flatten) ∧ ∀ b, v.ownBlock = some b → R b
theorem RowS.kept {O R R' : Nat → Prop} {w w' : World} {v : Value} {l : List NStep} (h : RowS w R v l) (hc : Chg O w w') (hO : ∀ b, R b → ¬ O b) (hR : ∀ b, R b → R' b) : RowS w' R' v l :=
  ⟨hc.row h.1 (fun k hk => hO k (h.2 k hk)), fun b hb => hR b (h.2 b hb)⟩
/-- a pending write, as the document's disk has it: its four cells; its bytes lie at u -/
def encX (p : Wr × Value) : List Value := [.int .i64 (p.1.file : Int), .bool p.1.cut, .int .i64 (p.1.place : Int), p.2]
/-- pending writes in a row that nobody writes -/
def RowW (w : World) (R : Nat → Prop) (v : Value) (l : List Wr) : Prop :=
  ∃ us : List Value, us.length = l.length ∧ w.ownsRow 0 124 4 v l.length (((l.zip us).map encX).flatten) ∧ (∀ (i : Nat) u x, us[i]? = some u → l[i]? = some x → BytesIn w R u x.data) ∧ ∀ b, v.ownBlock = some b → R b
theorem RowW.kept {O R R' : Nat → Prop} {w w' : World} {v : Value} {l : List Wr} (h : RowW w R v l) (hc : Chg O w w') (hO : ∀ b, R b → ¬ O b) (hR : ∀ b, R b → R' b) : RowW w' R' v l := by
  obtain ⟨us, h0, h1, h2, h3⟩ := h
  exact ⟨us, h0, hc.row h1 (fun k hk => hO k (h3 k hk)), fun i u x hu hx => (h2 i u x hu hx).kept hc hO hR, fun b hb => hR b (h3 b hb)⟩

/-- THE DOCUMENT's DISK s LIES AT r, its lists in blocks of R that nobody writes: its parts -/
structure RAtP (w : World) (r : Nat) (s : DSt) (R : Nat → Prop) (vst vla vna vsu vsp vwr : Value) (e : TypeId) : Prop where
  cells : w.heap[r]? = some (.cells #[.int .i64 (s.room : Int), vst, vla, vna, vsu, vsp, vwr, .int .i64 (s.done : Int)] e (0, 0))
  stands : RowB w R vst (s.files.map (·.1))
  lasts : RowB w R vla (s.files.map (·.2))
  names : NamedIn w R vna s.names
  sure : NamedIn w R vsu s.sure
  steps : RowS w R vsp s.steps
  writes : RowW w R vwr s.writes
  rOut : ¬ R r
  rLt : ∀ b, R b → b < w.heap.size
/-- THE DOCUMENT's DISK s LIES AT r -/
def RAt (w : World) (r : Nat) (s : DSt) (R : Nat → Prop) : Prop := ∃ vst vla vna vsu vsp vwr e, RAtP w r s R vst vla vna vsu vsp vwr e
theorem RAtP.kept {O R : Nat → Prop} {w w' : World} {r : Nat} {s : DSt} {vst vla vna vsu vsp vwr : Value} {e : TypeId} (h : RAtP w r s R vst vla vna vsu vsp vwr e) (hc : Chg O w w') (hO : ∀ b, R b → ¬ O b) (hr : ¬ O r) : RAtP w' r s R vst vla vna vsu vsp vwr e where
  cells := hc.obj h.cells hr
  stands := h.stands.kept hc hO (fun _ h => h)
  lasts := h.lasts.kept hc hO (fun _ h => h)
  names := h.names.kept hc hO (fun _ h => h)
  sure := h.sure.kept hc hO (fun _ h => h)
  steps := h.steps.kept hc hO (fun _ h => h)
  writes := h.writes.kept hc hO (fun _ h => h)
  rOut := h.rOut
  rLt := fun b hb => Nat.lt_of_lt_of_le (h.rLt b hb) hc.size
theorem RAt.kept {O R : Nat → Prop} {w w' : World} {r : Nat} {s : DSt} (h : RAt w r s R) (hc : Chg O w w') (hO : ∀ b, R b → ¬ O b) (hr : ¬ O r) : RAt w' r s R := by
  obtain ⟨vst, vla, vna, vsu, vsp, vwr, e, h⟩ := h
  exact ⟨vst, vla, vna, vsu, vsp, vwr, e, h.kept hc hO hr⟩
theorem RAt.r_lt {w : World} {r : Nat} {s : DSt} {R : Nat → Prop} (h : RAt w r s R) : r < w.heap.size := by
  obtain ⟨vst, vla, vna, vsu, vsp, vwr, e, h⟩ := h
  exact heap_lt h.cells
/-- what is new is shared from now on -/
def RMore (R : Nat → Prop) (w w' : World) : Nat → Prop := fun b => R b ∨ NewIn w w' b
theorem rmore_ok {w w' : World} {r : Nat} {R : Nat → Prop} (hrl : r < w.heap.size) (hR : ∀ b, R b → b < w.heap.size) (hr : ¬ R r) (hs : w.heap.size ≤ w'.heap.size) : ¬ RMore R w w' r ∧ ∀ b, RMore R w w' b → b < w'.heap.size := by
  refine ⟨fun h => ?_, fun b h => ?_⟩
  · rcases h with h | h
    · exact hr h
    · exact absurd h.1 (by omega)
  · rcases h with h | h
    · have := hR b h; omega
    · exact h.2
/-- A STEP OF THE DOCUMENT's DISK AT r: it stands as s' now -/
def RTurns (w w' : World) (r : Nat) (s' : DSt) (R : Nat → Prop) : Prop := RAt w' r s' (RMore R w w') ∧ Chg (· = r) w w'

end Go.Proofs.YtgckcnnnblggbaaGreat
