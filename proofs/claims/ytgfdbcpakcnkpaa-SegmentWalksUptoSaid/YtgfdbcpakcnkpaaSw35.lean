/- Texts of this claim, one behind the other: Shq, Opb. -/
import Derived.Test.YtgfdbcpakcnkpaaSd33
import Derived.Test.YtgfdbcpakcnkpaaSw34
import Derived.Deep.SlicePairs
import Derived.Deep.Grids
set_option linter.unusedSimpArgs false
set_option linter.unusedVariables false
/- SegmentWalks: the walk. (printed by gen/swalkw.py) -/
namespace Go.Proofs.Ytgfdbcpakcnkpaa
open Go.RowKit Go.Maps

theorem le_foldl_add (l : List Nat) (n : Nat) : n ≤ l.foldl (· + ·) n := by
  induction l generalizing n with
  | nil => exact Nat.le_refl _
  | cons x r ih => exact Nat.le_trans (Nat.le_add_right n x) (ih (n + x))
theorem mem_foldl_add (l : List Nat) (n x : Nat) (h : x ∈ l) : x ≤ l.foldl (· + ·) n := by
  induction l generalizing n with
  | nil => cases h
  | cons y r ih =>
    rcases List.mem_cons.1 h with rfl | h
    · exact Nat.le_trans (Nat.le_add_left x n) (le_foldl_add r (n + x))
    · exact ih _ h
theorem mem_bytesL {L : List (List UInt8)} {e : List UInt8} (h : e ∈ L) : e.length ≤ bytesL L := by
  unfold bytesL
  exact mem_foldl_add _ 0 _ (List.mem_map_of_mem h)
theorem not_great {L : List (List UInt8)} (h : greatL L = false) : L.length ≤ 5000 ∧ ∀ e ∈ L, e.length ≤ 300000 := by
  unfold greatL at h
  simp only [Bool.or_eq_false_iff, decide_eq_false_iff_not] at h
  exact ⟨by omega, fun e he => by have := mem_bytesL he; omega⟩
theorem LentAt.lt {R : Nat → Prop} {w : World} {g c : Nat} {L : List (List UInt8)} (h : LentAt R w g c L) : LentAt (fun b => R b ∧ b < w.heap.size) w g c L := by
  obtain ⟨vs, m, h1, h2, h3, h4, mb, mc, rfl, h5, h6⟩ := h
  refine ⟨vs, _, h1, h2, ⟨h3, (h1.lt g rfl).2⟩, fun i x l hx hl => ?_, mb, mc, rfl, ⟨h5, (h6.lt mb rfl).2⟩, h6⟩
  obtain ⟨b, c, rfl, k1, k2⟩ := h4 i x l hx hl
  exact ⟨b, c, rfl, ⟨k1, (k2.lt b rfl).2⟩, k2⟩
theorem EntsAt.take {w : World} {a : Option Addr} {L : List (List UInt8)} (h : EntsAt w a L) (m : Nat) : EntsAt w a (L.take m) := fun hL => by
  obtain ⟨b, off, e, hc⟩ := h (fun e => hL (by rw [e]; simp))
  refine ⟨b, off, e, fun i d hd => hc i d ?_⟩
  rw [List.getElem?_take] at hd
  split at hd
  · exact hd
  · cases hd
/-- behind spoilt: both goings over -/
theorem walks_goes {w X w5 w6 w7 : World} {f gd z y : Int} {a A2 : Option Addr} {c ca n3 : Nat} {L Lt : List (List UInt8)} {leave : Int} {es : Value} {vs : List Value}
    (HQ : ∀ (W : World) (bd lo hi : Nat) (es : Value), W.heap[bd]? = some (.cells #[.int .i64 f, es, .int .i64 gd, .int .i64 z, .int .i64 y] 54 (0, 0)) → lo ≤ bd ∧ bd < hi → EntIn (fun b => lo ≤ b ∧ b < hi) W es L → hi ≤ W.heap.size → SeqY Fence.wide 5 Try.prog 69 #[.pointer (some ⟨bd, 0, none⟩)] encE (YE f L) (KpB lo hi) (fun xs => xs.length = tellsN f L.length) (fun pre => pre.length ≤ tellsN f L.length) W)
    (hb0X : Below w.heap.size w X) (hn3 : w.heap.size < n3) (hb5 : Below X.heap.size X w5) (hb6 : Below w5.heap.size w5 w6) (s3 : ∀ x ∈ vs, ∀ b, x.ownBlock = some b → n3 ≤ b ∧ b < X.heap.size) (hc7 : Chg (fun b => ∃ x ∈ vs, x.ownBlock = some b) w6 w7)
    (hx5 : w5.heap[X.heap.size]? = some (.cells #[.int .i64 f, es, .int .i64 gd, .int .i64 z, .int .i64 y] 54 (0, 0))) (hE5 : EntIn (fun b => X.heap.size < b ∧ b < w5.heap.size) w5 es L) (k1x : w5.heap[w.heap.size]? = some (.cells #[.int .i64 f, .slice a L.length c, .int .i64 gd, .int .i64 z, .int .i64 y] 54 (0, 0)))
    (hA : EntsAt w A2 Lt) (hLt : Lt = L.take (tellsN f L.length)) (hl : L.length ≤ 5000) (hb3 : ∀ e ∈ L, e.length ≤ 300000) :
    w7.cell? ⟨w.heap.size, 0, none⟩ = some (.int .i64 f) ∧ Below w.heap.size w w7 ∧ Calls Try.prog 30 #[.func (.func 69) #[] #[.pointer (some ⟨X.heap.size, 0, none⟩)], .int .i64 f, .slice A2 Lt.length ca, .int .i64 leave] w7 (fun e w' => e = .returned (.bool true) ∧ Below w7.heap.size w7 w') ∧
      ∀ w8, Below w7.heap.size w7 w8 → Calls Try.prog 30 #[.func (.func 69) #[] #[.pointer (some ⟨X.heap.size, 0, none⟩)], .int .i64 f, .slice A2 Lt.length ca, .int .i64 0] w8 (fun e w' => e = .returned (.bool true) ∧ Below w8.heap.size w8 w') := by
  have hs5 := hb5.size
  have hs6 := hb6.size
  have hs7 := hc7.size
  have hsX := hb0X.size
  have hc : Chg (fun b => n3 ≤ b ∧ b < X.heap.size) w6 w7 := hc7.mono (fun b ⟨x, hx, e⟩ _ => s3 x hx b e)
  have hbd := heap_lt hx5
  have hx7 := hc.obj ((hb6.block _ hbd).trans hx5) (by omega)
  have hE7 := (hE5.below hb6).kept (R' := fun b => X.heap.size ≤ b ∧ b < w5.heap.size) hc (fun b hb e => by omega) (fun b hb => ⟨by omega, hb.2⟩)
  have hk7 := hc.obj ((hb6.block _ (heap_lt k1x)).trans k1x) (by omega)
  have hb06 : Below w.heap.size w w6 := (hb0X.trans (hb5.mono hsX)).trans (hb6.mono (by omega))
  have hb07 : Below w.heap.size w w7 := hb06.trans (hc.belowLo6 (by omega) (fun b hb => by omega))
  refine ⟨cell_of_heap hk7 (by rfl), hb07, ?_, fun w8 hb8 => ?_⟩
  · exact goes17_any (HQ w7 X.heap.size X.heap.size w5.heap.size es hx7 ⟨Nat.le_refl _, hbd⟩ hE7 (by omega)) (by omega) (hA.below hb07) hLt (by omega) (fun e he => by have := hb3 e he; omega) leave
  · have hs8 := hb8.size
    exact goes17_any (HQ w8 X.heap.size X.heap.size w5.heap.size es ((hb8.block _ (heap_lt hx7)).trans hx7) ⟨Nat.le_refl _, hbd⟩ (hE7.below hb8) (by omega)) (by omega) ((hA.below hb07).below hb8) hLt (by omega) (fun e he => by have := hb3 e he; omega) 0
set_option maxRecDepth 100000 in
set_option maxHeartbeats 32000000 in
theorem segWalks_walk {w : World} {f gd z y : Int} {a : Option Addr} {c : Nat} {L : List (List UInt8)} (h : EntsAt w a L) (hl : L.length ≤ maxLen) (hcap : L.length ≤ c) (hb : ∀ e ∈ L, e.length ≤ 140737488355328) (leave : Int) (hf : f ≤ 9223372036854775807) :
    Calls Try.prog 5 #[.agg #[.int .i64 f, .slice a L.length c, .int .i64 gd, .int .i64 z, .int .i64 y], .int .i64 leave] w fun e w' => e = .returned (.bool true) ∧ Below w.heap.size w w' := by
  obtain ⟨w1, hw1⟩ : ∃ w1, w.alloc (.cells #[.int .i64 f, .slice a L.length c, .int .i64 gd, .int .i64 z, .int .i64 y] 54) = w1 := ⟨_, rfl⟩
  have hb1 : Below w.heap.size w w1 := by rw [← hw1]; exact below_alloc w _
  have hx1 : w1.heap[w.heap.size]? = some (.cells #[.int .i64 f, .slice a L.length c, .int .i64 gd, .int .i64 z, .int .i64 y] 54 (0, 0)) := by rw [← hw1]; exact World.alloc_heap_new w _
  have hG := great17_any (w := w1) (c := c) (h.below hb1) hl hb
  have p0 := cell_of_heap hx1 (i := 0) (v := .int .i64 f) (by rfl)
  have p1 := cell_of_heap hx1 (i := 1) (v := .slice a L.length c) (by rfl)
  have hwk := fun W => works17_any W
  have HWK := Lib.hid hwk
  have HW := Lib.hid hw1
  have HX := Lib.hid hx1
  have HB1 := Lib.hid hb1
  have hlt1 := heap_lt hx1
  clear hwk hw1 hx1 hb1
  cases hgr : greatL L with
  | true =>
    rw [hgr] at hG
    clear hgr h hb hl hcap hf
    go_enter Try.func5, Try.ntmps5
    go_wp2_with (first
      | rw [HW.out]
      | (go_at_call 26; refine hG.mono ?_; rintro _ w2 ⟨rfl, hb2⟩; have hwE := HWK.out w2)
      | (go_at_call 20; refine hwE.mono ?_; rintro _ wF ⟨rfl, hbF⟩))
    go_ret
    have h1 := HB1.out.trans (hb2.mono HB1.out.size)
    exact ⟨rfl, h1.trans (hbF.mono h1.size)⟩
  | false =>
    rw [hgr] at hG
    obtain ⟨hl5, hb3⟩ := not_great hgr
    clear hgr hb hl
    have hlen := fun W (hW : Below w.heap.size w W) => lent17_any (w := W) (c := c) (h.below hW) (by omega) (fun e he => by have := hb3 e he; omega)
    have hq : ∀ (W : World) (bd lo hi : Nat) (es : Value), W.heap[bd]? = some (.cells #[.int .i64 f, es, .int .i64 gd, .int .i64 z, .int .i64 y] 54 (0, 0)) → lo ≤ bd ∧ bd < hi → EntIn (fun b => lo ≤ b ∧ b < hi) W es L → hi ≤ W.heap.size → SeqY Fence.wide 5 Try.prog 69 #[.pointer (some ⟨bd, 0, none⟩)] encE (YE f L) (KpB lo hi) (fun xs => xs.length = tellsN f L.length) (fun pre => pre.length ≤ tellsN f L.length) W := fun W bd lo hi es k1 k2 k3 k4 => by
      by_cases hbad : f < 0 ∨ 4611686018427387904 < f
      · exact all1_no 5 hbad k1 L _
      · exact all1_seq 5 (by omega) (by omega) (by omega) k1 k2 k3 k4 (by omega) (fun e he => by have := hb3 e he; omega)
    have HQ := Lib.hid hq
    have HLEN := Lib.hid hlen
    have HE := Lib.hid h
    have HB3 := Lib.hid hb3
    clear hq hlen h hb3
    by_cases h0 : f < 0
    · have g1 : decide (f < 0) = true := by simpa using h0
      have HLt : Hid (([] : List (List UInt8)) = L.take (tellsN f L.length)) := Lib.hid (by unfold tellsN; rw [if_neg (by omega)]; rfl)
      have hz0 : ([] : List (List UInt8)).length = 0 := rfl
      clear h0
      go_enter Try.func5, Try.ntmps5
      go_upto_region 9 with (first
        | rw [HW.out]
        | (go_at_call 26; refine hG.mono ?_; rintro _ w2 ⟨rfl, hb2⟩; have hx12 := (hb2.block _ (heap_lt HX.out)).trans HX.out; have t0 := cell_of_heap hx12 (i := 0) (v := .int .i64 f) (by rfl); have t1 := cell_of_heap hx12 (i := 1) (v := .slice a L.length c) (by rfl); have t2 := cell_of_heap hx12 (i := 2) (v := .int .i64 gd) (by rfl); have t3 := cell_of_heap hx12 (i := 3) (v := .int .i64 z) (by rfl); have t4 := cell_of_heap hx12 (i := 4) (v := .int .i64 y) (by rfl); obtain ⟨w3, hw3⟩ : ∃ w3, w2.alloc (.cells #[.int .i64 f, .slice a L.length c, .int .i64 gd, .int .i64 z, .int .i64 y] 54) = w3 := ⟨_, rfl⟩; have hb3 : Below w2.heap.size w2 w3 := (by rw [← hw3]; exact below_alloc _ _); have hx23 : w3.heap[w2.heap.size]? = some (.cells #[.int .i64 f, .slice a L.length c, .int .i64 gd, .int .i64 z, .int .i64 y] 54 (0, 0)) := (by rw [← hw3]; exact World.alloc_heap_new _ _); have hz3 : w3.heap.size = w2.heap.size + 1 := (by rw [← hw3]; simp); have HZ3 := Lib.hid hz3; have HW3 := Lib.hid hw3; clear hw3 hz3; have hb02 := HB1.out.trans (hb2.mono HB1.out.size); have hb03 := hb02.trans (hb3.mono hb02.size); have hLe := HLEN.out w3 hb03)
        | rw [HW3.out])
      have hx13 := (hb3.block _ (heap_lt hx12)).trans hx12
      clear t0 t1 t2 t3 t4
      have u1 := cell_of_heap hx13 (i := 1) (v := .slice a L.length c) (by rfl)
      go_upto_region 10 with (go_at_call 27; refine hLe.mono ?_; rintro _ w4 ⟨g, c4, rfl, hLn, hb4⟩; have hx24 := (hb4.block _ (heap_lt hx23)).trans hx23; have q1 := cell_of_heap hx24 (i := 1) (v := .slice a L.length c) (by rfl); have z1 := frozen_of_heap (i := 1) hx24)
      obtain ⟨X, hX, hcX⟩ : ∃ X, w4.setCell ⟨w2.heap.size, 1, none⟩ (.slice (some ⟨g, 0, none⟩) L.length c4) = X ∧ Chg (· = w2.heap.size) w4 X := ⟨_, rfl, Chg.set _ rfl⟩
      have hxX := heap_set_cells (i := 1) (.slice (some ⟨g, 0, none⟩) L.length c4) hx24
      rw [hX] at hxX ⊢
      clear hX
      have hxX : X.heap[w2.heap.size]? = some (.cells #[.int .i64 f, .slice (some ⟨g, 0, none⟩) L.length c4, .int .i64 gd, .int .i64 z, .int .i64 y] 54 (0, 0)) := hxX
      have hz3 := HZ3.out
      have hs12 := hb2.size
      have hn3 : w.heap.size < w3.heap.size := by have := hb02.size; omega
      have HN3 := Lib.hid hn3
      have hs4 := hb4.size
      have hsX := hcX.size
      have hx1X := hcX.obj ((hb4.block _ (heap_lt hx13)).trans hx13) (by omega)
      have hLX0 := hLn.kept (R' := fun b => w3.heap.size ≤ b) hcX (fun b hb e => by have hb : w3.heap.size ≤ b := hb; omega) (fun _ h => h)
      have hLX := hLX0.lt
      obtain ⟨_, _, eX, hatX⟩ := hLX.ents.at_
      cases eX
      have hAll := all_any (w := X) (c := c4) (f := f) (g := gd) (z := z) (y := y) hatX (by omega) (fun e he => by have := HB3.out e he; omega)
      have hb04 := hb03.trans (hb4.mono hb03.size)
      have hb0X : Below w.heap.size w X := hb04.trans (hcX.belowLo6 hb04.size (fun b hb => by have := hb02.size; omega))
      have x0 := cell_of_heap hxX (i := 0) (v := .int .i64 f) (by rfl); have x1 := cell_of_heap hxX (i := 1) (v := .slice (some ⟨g, 0, none⟩) L.length c4) (by rfl); have x2 := cell_of_heap hxX (i := 2) (v := .int .i64 gd) (by rfl); have x3 := cell_of_heap hxX (i := 3) (v := .int .i64 z) (by rfl); have x4 := cell_of_heap hxX (i := 4) (v := .int .i64 y) (by rfl)
      have HLX := Lib.hid hLX
      have HXX := Lib.hid hxX
      have HX1 := Lib.hid hx1X
      have HCX := Lib.hid (And.intro hb0X hatX)
      clear hLX0 u1 q1 z1 hx24 hx23 hx13 hx12 hLn hLX hcX hxX hx1X hb0X hatX hz3 hs12 hn3 hb4 hb3 hb2 hb02 hb03 hb04 p0 p1
      go_wp2_with (first
        | (go_at_call 28; refine hAll.mono ?_; rintro _ w5 ⟨es, rfl, hx5, hE5, hb5⟩; have kx := (hb5.block _ (heap_lt HXX.out)).trans HXX.out; have k1x := (hb5.block _ (heap_lt HX1.out)).trans HX1.out; have v1 := cell_of_heap kx (i := 1) (v := .slice (some ⟨g, 0, none⟩) L.length c4) (by rfl); have o1 := cell_of_heap k1x (i := 1) (v := .slice a L.length c) (by rfl); have hL5 := HLX.out.below hb5; have hb05 := HCX.out.1.trans (hb5.mono HCX.out.1.size); have hK := kept17_any (w := w5) (ca := c) hL5 (HE.out.below hb05) (by omega) (fun e he => by have := HB3.out e he; omega); clear x0 x1 x2 x3 x4)
        | (go_at_call 29; refine hK.mono ?_; rintro _ w6 ⟨rfl, hb6⟩; have hx6 := (hb6.block _ (heap_lt hx5)).trans hx5; have kx6 := (hb6.block _ (heap_lt kx)).trans kx; have k1x6 := (hb6.block _ (heap_lt k1x)).trans k1x; have v1 := cell_of_heap kx6 (i := 1) (v := .slice (some ⟨g, 0, none⟩) L.length c4) (by rfl); obtain ⟨vs, s1, s2, s3⟩ := ((hL5.below hb6).ents).spoil (fun e he => by have := HB3.out e he; have hmax : maxLen = 9223372036854775807 := rfl; omega); have hSp := spoilt_any s1 s2; have hE6 := hE5.below hb6; have hb06 := hb05.trans (hb6.mono hb05.size); clear o1 s1 s2)
        | (go_at_call 25; refine hSp.mono ?_; rintro _ w7 ⟨rfl, hc7⟩; have hgo := walks_goes (leave := leave) (ca := 0) (A2 := none) (Lt := []) HQ.out HCX.out.1 (n3 := w3.heap.size) HN3.out hb5 hb6 s3 hc7 hx5 hE5 k1x (EntsAt.nil _ _) HLt.out (by omega) HB3.out; have c07 := hgo.1; have hG1 := hgo.2.2.1; have HGO := Lib.hid hgo; clear hgo)
        | (go_at_call 30; refine hG2.mono ?_; rintro _ w9 ⟨rfl, hb9⟩; have hwE := HWK.out w9)
        | (go_at_call 30; refine hG1.mono ?_; rintro _ w8 ⟨rfl, hb8⟩; have c08 := (hb8.cell (p := ⟨w.heap.size, 0, none⟩) (cell_lt c07)).trans c07; have hG2 := HGO.out.2.2.2 w8 hb8)
        | (go_at_call 20; refine hwE.mono ?_; rintro _ wF ⟨rfl, hbF⟩))
      go_ret
      have h7 := HGO.out.2.1
      have h8 := h7.trans (hb8.mono h7.size)
      have h9 := h8.trans (hb9.mono h8.size)
      exact ⟨rfl, h9.trans (hbF.mono h9.size)⟩
    by_cases h1 : 4611686018427387904 < f
    · have g1 : decide (f < 0) = false := by simpa using h0
      have g2 : decide (4611686018427387904 < f) = true := by simpa using h1
      have HLt : Hid (([] : List (List UInt8)) = L.take (tellsN f L.length)) := Lib.hid (by unfold tellsN; rw [if_neg (by omega)]; rfl)
      clear h0 h1
      go_enter Try.func5, Try.ntmps5
      go_upto_region 9 with (first
        | rw [HW.out]
        | (go_at_call 26; refine hG.mono ?_; rintro _ w2 ⟨rfl, hb2⟩; have hx12 := (hb2.block _ (heap_lt HX.out)).trans HX.out; have t0 := cell_of_heap hx12 (i := 0) (v := .int .i64 f) (by rfl); have t1 := cell_of_heap hx12 (i := 1) (v := .slice a L.length c) (by rfl); have t2 := cell_of_heap hx12 (i := 2) (v := .int .i64 gd) (by rfl); have t3 := cell_of_heap hx12 (i := 3) (v := .int .i64 z) (by rfl); have t4 := cell_of_heap hx12 (i := 4) (v := .int .i64 y) (by rfl); obtain ⟨w3, hw3⟩ : ∃ w3, w2.alloc (.cells #[.int .i64 f, .slice a L.length c, .int .i64 gd, .int .i64 z, .int .i64 y] 54) = w3 := ⟨_, rfl⟩; have hb3 : Below w2.heap.size w2 w3 := (by rw [← hw3]; exact below_alloc _ _); have hx23 : w3.heap[w2.heap.size]? = some (.cells #[.int .i64 f, .slice a L.length c, .int .i64 gd, .int .i64 z, .int .i64 y] 54 (0, 0)) := (by rw [← hw3]; exact World.alloc_heap_new _ _); have hz3 : w3.heap.size = w2.heap.size + 1 := (by rw [← hw3]; simp); have HZ3 := Lib.hid hz3; have HW3 := Lib.hid hw3; clear hw3 hz3; have hb02 := HB1.out.trans (hb2.mono HB1.out.size); have hb03 := hb02.trans (hb3.mono hb02.size); have hLe := HLEN.out w3 hb03)
        | rw [HW3.out])
      have hx13 := (hb3.block _ (heap_lt hx12)).trans hx12
      clear t0 t1 t2 t3 t4
      have u1 := cell_of_heap hx13 (i := 1) (v := .slice a L.length c) (by rfl)
      go_upto_region 10 with (go_at_call 27; refine hLe.mono ?_; rintro _ w4 ⟨g, c4, rfl, hLn, hb4⟩; have hx24 := (hb4.block _ (heap_lt hx23)).trans hx23; have q1 := cell_of_heap hx24 (i := 1) (v := .slice a L.length c) (by rfl); have z1 := frozen_of_heap (i := 1) hx24)
      obtain ⟨X, hX, hcX⟩ : ∃ X, w4.setCell ⟨w2.heap.size, 1, none⟩ (.slice (some ⟨g, 0, none⟩) L.length c4) = X ∧ Chg (· = w2.heap.size) w4 X := ⟨_, rfl, Chg.set _ rfl⟩
      have hxX := heap_set_cells (i := 1) (.slice (some ⟨g, 0, none⟩) L.length c4) hx24
      rw [hX] at hxX ⊢
      clear hX
      have hxX : X.heap[w2.heap.size]? = some (.cells #[.int .i64 f, .slice (some ⟨g, 0, none⟩) L.length c4, .int .i64 gd, .int .i64 z, .int .i64 y] 54 (0, 0)) := hxX
      have hz3 := HZ3.out
      have hs12 := hb2.size
      have hn3 : w.heap.size < w3.heap.size := by have := hb02.size; omega
      have HN3 := Lib.hid hn3
      have hs4 := hb4.size
      have hsX := hcX.size
      have hx1X := hcX.obj ((hb4.block _ (heap_lt hx13)).trans hx13) (by omega)
      have hLX0 := hLn.kept (R' := fun b => w3.heap.size ≤ b) hcX (fun b hb e => by have hb : w3.heap.size ≤ b := hb; omega) (fun _ h => h)
      have hLX := hLX0.lt
      obtain ⟨_, _, eX, hatX⟩ := hLX.ents.at_
      cases eX
      have hAll := all_any (w := X) (c := c4) (f := f) (g := gd) (z := z) (y := y) hatX (by omega) (fun e he => by have := HB3.out e he; omega)
      have hb04 := hb03.trans (hb4.mono hb03.size)
      have hb0X : Below w.heap.size w X := hb04.trans (hcX.belowLo6 hb04.size (fun b hb => by have := hb02.size; omega))
      have x0 := cell_of_heap hxX (i := 0) (v := .int .i64 f) (by rfl); have x1 := cell_of_heap hxX (i := 1) (v := .slice (some ⟨g, 0, none⟩) L.length c4) (by rfl); have x2 := cell_of_heap hxX (i := 2) (v := .int .i64 gd) (by rfl); have x3 := cell_of_heap hxX (i := 3) (v := .int .i64 z) (by rfl); have x4 := cell_of_heap hxX (i := 4) (v := .int .i64 y) (by rfl)
      have HLX := Lib.hid hLX
      have HXX := Lib.hid hxX
      have HX1 := Lib.hid hx1X
      have HCX := Lib.hid (And.intro hb0X hatX)
      clear hLX0 u1 q1 z1 hx24 hx23 hx13 hx12 hLn hLX hcX hxX hx1X hb0X hatX hz3 hs12 hn3 hb4 hb3 hb2 hb02 hb03 hb04 p0 p1
      go_wp2_with (first
        | (go_at_call 28; refine hAll.mono ?_; rintro _ w5 ⟨es, rfl, hx5, hE5, hb5⟩; have kx := (hb5.block _ (heap_lt HXX.out)).trans HXX.out; have k1x := (hb5.block _ (heap_lt HX1.out)).trans HX1.out; have v1 := cell_of_heap kx (i := 1) (v := .slice (some ⟨g, 0, none⟩) L.length c4) (by rfl); have o1 := cell_of_heap k1x (i := 1) (v := .slice a L.length c) (by rfl); have hL5 := HLX.out.below hb5; have hb05 := HCX.out.1.trans (hb5.mono HCX.out.1.size); have hK := kept17_any (w := w5) (ca := c) hL5 (HE.out.below hb05) (by omega) (fun e he => by have := HB3.out e he; omega); clear x0 x1 x2 x3 x4)
        | (go_at_call 29; refine hK.mono ?_; rintro _ w6 ⟨rfl, hb6⟩; have hx6 := (hb6.block _ (heap_lt hx5)).trans hx5; have kx6 := (hb6.block _ (heap_lt kx)).trans kx; have k1x6 := (hb6.block _ (heap_lt k1x)).trans k1x; have v1 := cell_of_heap kx6 (i := 1) (v := .slice (some ⟨g, 0, none⟩) L.length c4) (by rfl); obtain ⟨vs, s1, s2, s3⟩ := ((hL5.below hb6).ents).spoil (fun e he => by have := HB3.out e he; have hmax : maxLen = 9223372036854775807 := rfl; omega); have hSp := spoilt_any s1 s2; have hE6 := hE5.below hb6; have hb06 := hb05.trans (hb6.mono hb05.size); clear o1 s1 s2)
        | (go_at_call 25; refine hSp.mono ?_; rintro _ w7 ⟨rfl, hc7⟩; have hgo := walks_goes (leave := leave) (ca := 0) (A2 := none) (Lt := []) HQ.out HCX.out.1 (n3 := w3.heap.size) HN3.out hb5 hb6 s3 hc7 hx5 hE5 k1x (EntsAt.nil _ _) HLt.out (by omega) HB3.out; have c07 := hgo.1; have hG1 := hgo.2.2.1; have HGO := Lib.hid hgo; clear hgo)
        | (go_at_call 30; refine hG2.mono ?_; rintro _ w9 ⟨rfl, hb9⟩; have hwE := HWK.out w9)
        | (go_at_call 30; refine hG1.mono ?_; rintro _ w8 ⟨rfl, hb8⟩; have c08 := (hb8.cell (p := ⟨w.heap.size, 0, none⟩) (cell_lt c07)).trans c07; have hG2 := HGO.out.2.2.2 w8 hb8)
        | (go_at_call 20; refine hwE.mono ?_; rintro _ wF ⟨rfl, hbF⟩))
      go_ret
      have h7 := HGO.out.2.1
      have h8 := h7.trans (hb8.mono h7.size)
      have h9 := h8.trans (hb9.mono h8.size)
      exact ⟨rfl, h9.trans (hbF.mono h9.size)⟩
    have g1 : decide (f < 0) = false := by simpa using h0
    have g2 : decide (4611686018427387904 < f) = false := by simpa using h1
    have ht : tellsN f L.length = min L.length (4611686018427387905 - f).toNat := by unfold tellsN; rw [if_pos ⟨by omega, by omega⟩]
    by_cases h2 : 4611686018427387905 - f < (L.length : Int)
    · obtain ⟨m, hm⟩ := Int.eq_ofNat_of_zero_le (by omega : 0 ≤ 4611686018427387905 - f)
      have hmL : m < L.length := by omega
      have htl : (L.take m).length = m := by simp; omega
      have HLt : Hid (L.take m = L.take (tellsN f L.length)) := Lib.hid (by rw [ht, hm]; congr 1; simp; omega)
      have HEm : Hid (EntsAt w a (L.take m)) := Lib.hid (HE.out.take m)
      have g3 : decide ((m : Int) < (L.length : Int)) = true := by simp; omega
      have e3 : IntKind.i64.wrap (4611686018427387905 - f) = (m : Int) := (Go.IntWalk.i64_in _ (by omega)).trans hm
      have hsl := run_slice_hi (P := Try.prog) 52 26 Try.underlying52 Try.sizeOf26 a L.length c m (by omega)
      have j0 : (0 : Int) ≤ (m : Int) := by omega
      have HTL := Lib.hid htl
      clear h0 h1 h2 ht hm htl
      go_enter Try.func5, Try.ntmps5
      go_upto_region 9 with (first
        | rw [HW.out]
        | (go_at_call 26; refine hG.mono ?_; rintro _ w2 ⟨rfl, hb2⟩; have hx12 := (hb2.block _ (heap_lt HX.out)).trans HX.out; have t0 := cell_of_heap hx12 (i := 0) (v := .int .i64 f) (by rfl); have t1 := cell_of_heap hx12 (i := 1) (v := .slice a L.length c) (by rfl); have t2 := cell_of_heap hx12 (i := 2) (v := .int .i64 gd) (by rfl); have t3 := cell_of_heap hx12 (i := 3) (v := .int .i64 z) (by rfl); have t4 := cell_of_heap hx12 (i := 4) (v := .int .i64 y) (by rfl); obtain ⟨w3, hw3⟩ : ∃ w3, w2.alloc (.cells #[.int .i64 f, .slice a L.length c, .int .i64 gd, .int .i64 z, .int .i64 y] 54) = w3 := ⟨_, rfl⟩; have hb3 : Below w2.heap.size w2 w3 := (by rw [← hw3]; exact below_alloc _ _); have hx23 : w3.heap[w2.heap.size]? = some (.cells #[.int .i64 f, .slice a L.length c, .int .i64 gd, .int .i64 z, .int .i64 y] 54 (0, 0)) := (by rw [← hw3]; exact World.alloc_heap_new _ _); have hz3 : w3.heap.size = w2.heap.size + 1 := (by rw [← hw3]; simp); have HZ3 := Lib.hid hz3; have HW3 := Lib.hid hw3; clear hw3 hz3; have hb02 := HB1.out.trans (hb2.mono HB1.out.size); have hb03 := hb02.trans (hb3.mono hb02.size); have hLe := HLEN.out w3 hb03)
        | rw [HW3.out])
      have hx13 := (hb3.block _ (heap_lt hx12)).trans hx12
      clear t0 t1 t2 t3 t4
      have u1 := cell_of_heap hx13 (i := 1) (v := .slice a L.length c) (by rfl)
      go_upto_region 10 with (go_at_call 27; refine hLe.mono ?_; rintro _ w4 ⟨g, c4, rfl, hLn, hb4⟩; have hx24 := (hb4.block _ (heap_lt hx23)).trans hx23; have q1 := cell_of_heap hx24 (i := 1) (v := .slice a L.length c) (by rfl); have z1 := frozen_of_heap (i := 1) hx24)
      obtain ⟨X, hX, hcX⟩ : ∃ X, w4.setCell ⟨w2.heap.size, 1, none⟩ (.slice (some ⟨g, 0, none⟩) L.length c4) = X ∧ Chg (· = w2.heap.size) w4 X := ⟨_, rfl, Chg.set _ rfl⟩
      have hxX := heap_set_cells (i := 1) (.slice (some ⟨g, 0, none⟩) L.length c4) hx24
      rw [hX] at hxX ⊢
      clear hX
      have hxX : X.heap[w2.heap.size]? = some (.cells #[.int .i64 f, .slice (some ⟨g, 0, none⟩) L.length c4, .int .i64 gd, .int .i64 z, .int .i64 y] 54 (0, 0)) := hxX
      have hz3 := HZ3.out
      have hs12 := hb2.size
      have hn3 : w.heap.size < w3.heap.size := by have := hb02.size; omega
      have HN3 := Lib.hid hn3
      have hs4 := hb4.size
      have hsX := hcX.size
      have hx1X := hcX.obj ((hb4.block _ (heap_lt hx13)).trans hx13) (by omega)
      have hLX0 := hLn.kept (R' := fun b => w3.heap.size ≤ b) hcX (fun b hb e => by have hb : w3.heap.size ≤ b := hb; omega) (fun _ h => h)
      have hLX := hLX0.lt
      obtain ⟨_, _, eX, hatX⟩ := hLX.ents.at_
      cases eX
      have hAll := all_any (w := X) (c := c4) (f := f) (g := gd) (z := z) (y := y) hatX (by omega) (fun e he => by have := HB3.out e he; omega)
      have hb04 := hb03.trans (hb4.mono hb03.size)
      have hb0X : Below w.heap.size w X := hb04.trans (hcX.belowLo6 hb04.size (fun b hb => by have := hb02.size; omega))
      have x0 := cell_of_heap hxX (i := 0) (v := .int .i64 f) (by rfl); have x1 := cell_of_heap hxX (i := 1) (v := .slice (some ⟨g, 0, none⟩) L.length c4) (by rfl); have x2 := cell_of_heap hxX (i := 2) (v := .int .i64 gd) (by rfl); have x3 := cell_of_heap hxX (i := 3) (v := .int .i64 z) (by rfl); have x4 := cell_of_heap hxX (i := 4) (v := .int .i64 y) (by rfl)
      have HLX := Lib.hid hLX
      have HXX := Lib.hid hxX
      have HX1 := Lib.hid hx1X
      have HCX := Lib.hid (And.intro hb0X hatX)
      clear hLX0 u1 q1 z1 hx24 hx23 hx13 hx12 hLn hLX hcX hxX hx1X hb0X hatX hz3 hs12 hn3 hb4 hb3 hb2 hb02 hb03 hb04 p0 p1
      go_wp2_with (first
        | (go_at_call 28; refine hAll.mono ?_; rintro _ w5 ⟨es, rfl, hx5, hE5, hb5⟩; have kx := (hb5.block _ (heap_lt HXX.out)).trans HXX.out; have k1x := (hb5.block _ (heap_lt HX1.out)).trans HX1.out; have v1 := cell_of_heap kx (i := 1) (v := .slice (some ⟨g, 0, none⟩) L.length c4) (by rfl); have o1 := cell_of_heap k1x (i := 1) (v := .slice a L.length c) (by rfl); have hL5 := HLX.out.below hb5; have hb05 := HCX.out.1.trans (hb5.mono HCX.out.1.size); have hK := kept17_any (w := w5) (ca := c) hL5 (HE.out.below hb05) (by omega) (fun e he => by have := HB3.out e he; omega); clear x0 x1 x2 x3 x4)
        | (go_at_call 29; refine hK.mono ?_; rintro _ w6 ⟨rfl, hb6⟩; have hx6 := (hb6.block _ (heap_lt hx5)).trans hx5; have kx6 := (hb6.block _ (heap_lt kx)).trans kx; have k1x6 := (hb6.block _ (heap_lt k1x)).trans k1x; have v1 := cell_of_heap kx6 (i := 1) (v := .slice (some ⟨g, 0, none⟩) L.length c4) (by rfl); obtain ⟨vs, s1, s2, s3⟩ := ((hL5.below hb6).ents).spoil (fun e he => by have := HB3.out e he; have hmax : maxLen = 9223372036854775807 := rfl; omega); have hSp := spoilt_any s1 s2; have hE6 := hE5.below hb6; have hb06 := hb05.trans (hb6.mono hb05.size); clear o1 s1 s2)
        | (go_at_call 25; refine hSp.mono ?_; rintro _ w7 ⟨rfl, hc7⟩; have hgo := walks_goes (leave := leave) (ca := c) (A2 := a) (Lt := L.take m) HQ.out HCX.out.1 (n3 := w3.heap.size) HN3.out hb5 hb6 s3 hc7 hx5 hE5 k1x HEm.out HLt.out (by omega) HB3.out; rw [HTL.out] at hgo; have c07 := hgo.1; have hG1 := hgo.2.2.1; have HGO := Lib.hid hgo; clear hgo)
        | (go_at_call 30; refine hG2.mono ?_; rintro _ w9 ⟨rfl, hb9⟩; have hwE := HWK.out w9)
        | (go_at_call 30; refine hG1.mono ?_; rintro _ w8 ⟨rfl, hb8⟩; have c08 := (hb8.cell (p := ⟨w.heap.size, 0, none⟩) (cell_lt c07)).trans c07; have hG2 := HGO.out.2.2.2 w8 hb8)
        | (go_at_call 20; refine hwE.mono ?_; rintro _ wF ⟨rfl, hbF⟩))
      go_ret
      have h7 := HGO.out.2.1
      have h8 := h7.trans (hb8.mono h7.size)
      have h9 := h8.trans (hb9.mono h8.size)
      exact ⟨rfl, h9.trans (hbF.mono h9.size)⟩
    · have HLt : Hid (L = L.take (tellsN f L.length)) := Lib.hid (by rw [ht, List.take_of_length_le (by omega)])
      have e3 : IntKind.i64.wrap (4611686018427387905 - f) = 4611686018427387905 - f := Go.IntWalk.i64_in _ (by omega)
      have g3 : decide (4611686018427387905 - f < (L.length : Int)) = false := by simpa using h2
      clear h0 h1 h2 ht
      go_enter Try.func5, Try.ntmps5
      go_upto_region 9 with (first
        | rw [HW.out]
        | (go_at_call 26; refine hG.mono ?_; rintro _ w2 ⟨rfl, hb2⟩; have hx12 := (hb2.block _ (heap_lt HX.out)).trans HX.out; have t0 := cell_of_heap hx12 (i := 0) (v := .int .i64 f) (by rfl); have t1 := cell_of_heap hx12 (i := 1) (v := .slice a L.length c) (by rfl); have t2 := cell_of_heap hx12 (i := 2) (v := .int .i64 gd) (by rfl); have t3 := cell_of_heap hx12 (i := 3) (v := .int .i64 z) (by rfl); have t4 := cell_of_heap hx12 (i := 4) (v := .int .i64 y) (by rfl); obtain ⟨w3, hw3⟩ : ∃ w3, w2.alloc (.cells #[.int .i64 f, .slice a L.length c, .int .i64 gd, .int .i64 z, .int .i64 y] 54) = w3 := ⟨_, rfl⟩; have hb3 : Below w2.heap.size w2 w3 := (by rw [← hw3]; exact below_alloc _ _); have hx23 : w3.heap[w2.heap.size]? = some (.cells #[.int .i64 f, .slice a L.length c, .int .i64 gd, .int .i64 z, .int .i64 y] 54 (0, 0)) := (by rw [← hw3]; exact World.alloc_heap_new _ _); have hz3 : w3.heap.size = w2.heap.size + 1 := (by rw [← hw3]; simp); have HZ3 := Lib.hid hz3; have HW3 := Lib.hid hw3; clear hw3 hz3; have hb02 := HB1.out.trans (hb2.mono HB1.out.size); have hb03 := hb02.trans (hb3.mono hb02.size); have hLe := HLEN.out w3 hb03)
        | rw [HW3.out])
      have hx13 := (hb3.block _ (heap_lt hx12)).trans hx12
      clear t0 t1 t2 t3 t4
      have u1 := cell_of_heap hx13 (i := 1) (v := .slice a L.length c) (by rfl)
      go_upto_region 10 with (go_at_call 27; refine hLe.mono ?_; rintro _ w4 ⟨g, c4, rfl, hLn, hb4⟩; have hx24 := (hb4.block _ (heap_lt hx23)).trans hx23; have q1 := cell_of_heap hx24 (i := 1) (v := .slice a L.length c) (by rfl); have z1 := frozen_of_heap (i := 1) hx24)
      obtain ⟨X, hX, hcX⟩ : ∃ X, w4.setCell ⟨w2.heap.size, 1, none⟩ (.slice (some ⟨g, 0, none⟩) L.length c4) = X ∧ Chg (· = w2.heap.size) w4 X := ⟨_, rfl, Chg.set _ rfl⟩
      have hxX := heap_set_cells (i := 1) (.slice (some ⟨g, 0, none⟩) L.length c4) hx24
      rw [hX] at hxX ⊢
      clear hX
      have hxX : X.heap[w2.heap.size]? = some (.cells #[.int .i64 f, .slice (some ⟨g, 0, none⟩) L.length c4, .int .i64 gd, .int .i64 z, .int .i64 y] 54 (0, 0)) := hxX
      have hz3 := HZ3.out
      have hs12 := hb2.size
      have hn3 : w.heap.size < w3.heap.size := by have := hb02.size; omega
      have HN3 := Lib.hid hn3
      have hs4 := hb4.size
      have hsX := hcX.size
      have hx1X := hcX.obj ((hb4.block _ (heap_lt hx13)).trans hx13) (by omega)
      have hLX0 := hLn.kept (R' := fun b => w3.heap.size ≤ b) hcX (fun b hb e => by have hb : w3.heap.size ≤ b := hb; omega) (fun _ h => h)
      have hLX := hLX0.lt
      obtain ⟨_, _, eX, hatX⟩ := hLX.ents.at_
      cases eX
      have hAll := all_any (w := X) (c := c4) (f := f) (g := gd) (z := z) (y := y) hatX (by omega) (fun e he => by have := HB3.out e he; omega)
      have hb04 := hb03.trans (hb4.mono hb03.size)
      have hb0X : Below w.heap.size w X := hb04.trans (hcX.belowLo6 hb04.size (fun b hb => by have := hb02.size; omega))
      have x0 := cell_of_heap hxX (i := 0) (v := .int .i64 f) (by rfl); have x1 := cell_of_heap hxX (i := 1) (v := .slice (some ⟨g, 0, none⟩) L.length c4) (by rfl); have x2 := cell_of_heap hxX (i := 2) (v := .int .i64 gd) (by rfl); have x3 := cell_of_heap hxX (i := 3) (v := .int .i64 z) (by rfl); have x4 := cell_of_heap hxX (i := 4) (v := .int .i64 y) (by rfl)
      have HLX := Lib.hid hLX
      have HXX := Lib.hid hxX
      have HX1 := Lib.hid hx1X
      have HCX := Lib.hid (And.intro hb0X hatX)
      clear hLX0 u1 q1 z1 hx24 hx23 hx13 hx12 hLn hLX hcX hxX hx1X hb0X hatX hz3 hs12 hn3 hb4 hb3 hb2 hb02 hb03 hb04 p0 p1
      go_wp2_with (first
        | (go_at_call 28; refine hAll.mono ?_; rintro _ w5 ⟨es, rfl, hx5, hE5, hb5⟩; have kx := (hb5.block _ (heap_lt HXX.out)).trans HXX.out; have k1x := (hb5.block _ (heap_lt HX1.out)).trans HX1.out; have v1 := cell_of_heap kx (i := 1) (v := .slice (some ⟨g, 0, none⟩) L.length c4) (by rfl); have o1 := cell_of_heap k1x (i := 1) (v := .slice a L.length c) (by rfl); have hL5 := HLX.out.below hb5; have hb05 := HCX.out.1.trans (hb5.mono HCX.out.1.size); have hK := kept17_any (w := w5) (ca := c) hL5 (HE.out.below hb05) (by omega) (fun e he => by have := HB3.out e he; omega); clear x0 x1 x2 x3 x4)
        | (go_at_call 29; refine hK.mono ?_; rintro _ w6 ⟨rfl, hb6⟩; have hx6 := (hb6.block _ (heap_lt hx5)).trans hx5; have kx6 := (hb6.block _ (heap_lt kx)).trans kx; have k1x6 := (hb6.block _ (heap_lt k1x)).trans k1x; have v1 := cell_of_heap kx6 (i := 1) (v := .slice (some ⟨g, 0, none⟩) L.length c4) (by rfl); obtain ⟨vs, s1, s2, s3⟩ := ((hL5.below hb6).ents).spoil (fun e he => by have := HB3.out e he; have hmax : maxLen = 9223372036854775807 := rfl; omega); have hSp := spoilt_any s1 s2; have hE6 := hE5.below hb6; have hb06 := hb05.trans (hb6.mono hb05.size); clear o1 s1 s2)
        | (go_at_call 25; refine hSp.mono ?_; rintro _ w7 ⟨rfl, hc7⟩; have hgo := walks_goes (leave := leave) (ca := c) (A2 := a) (Lt := L) HQ.out HCX.out.1 (n3 := w3.heap.size) HN3.out hb5 hb6 s3 hc7 hx5 hE5 k1x HE.out HLt.out (by omega) HB3.out; have c07 := hgo.1; have hG1 := hgo.2.2.1; have HGO := Lib.hid hgo; clear hgo)
        | (go_at_call 30; refine hG2.mono ?_; rintro _ w9 ⟨rfl, hb9⟩; have hwE := HWK.out w9)
        | (go_at_call 30; refine hG1.mono ?_; rintro _ w8 ⟨rfl, hb8⟩; have c08 := (hb8.cell (p := ⟨w.heap.size, 0, none⟩) (cell_lt c07)).trans c07; have hG2 := HGO.out.2.2.2 w8 hb8)
        | (go_at_call 20; refine hwE.mono ?_; rintro _ wF ⟨rfl, hbF⟩))
      go_ret
      have h7 := HGO.out.2.1
      have h8 := h7.trans (hb8.mono h7.size)
      have h9 := h8.trans (hb9.mono h8.size)
      exact ⟨rfl, h9.trans (hbF.mono h9.size)⟩
end Go.Proofs.Ytgfdbcpakcnkpaa
/- What is handed in, opened: bytes, with their room. -/
namespace Go.Proofs.Ytgfdbcpakcnkpaa
open Go.RowKit Go.Maps Go.ChangeShapes Go.WideShapes Go.Deep
set_option maxRecDepth 1000000

theorem row_of_cellsC {w : World} {a : Addr} {n : Nat} {V : Nat → Value} (h : ∀ i, i < n → w.cell? (a.add i) = some (V i)) : RowAt w (some a) ((List.range n).map V) := fun hne => by
  have hn : 0 < n := by
    rcases Nat.eq_zero_or_pos n with h0 | h0
    · subst h0; simp at hne
    · exact h0
  obtain ⟨b, off, spot⟩ := a
  have h0 := World.cell?_spot (h 0 hn)
  have hspot : spot = none := by simpa [Addr.add] using h0
  subst hspot
  refine ⟨b, off, rfl, fun j u hu => ?_⟩
  rw [List.getElem?_map] at hu
  obtain ⟨i, hi, rfl⟩ := Option.map_eq_some_iff.1 hu
  obtain ⟨hj, hij⟩ := List.getElem?_eq_some_iff.1 hi
  simp at hj hij
  subst hij
  rw [← Go.WideShapes.add_plain]
  exact h j hj
section
variable {H : Type} {enc : TypeId × Value → H} {w : World} {base : Nat}
theorem op_bytesC {fuel : Nat} {v : Value} {x : DataW H × List MemPlace} (h : DataW.trod enc Try.prog w base (fun _ => true) true fuel 26 [v] = some x) :
    ∃ a c, ∃ l : List UInt8, v = .slice a l.length c ∧ l.length ≤ c ∧ (a = none → c = 0) ∧ RowAt w a (l.map bv) := by
  rcases open_slice1 Try.underlying26 (by kernel_rfl) h with ⟨hcs, rfl⟩ | ⟨a, len, cap, m, n, V, D, Pl, hcs, hb, hl, hm, hmm, rfl, hel⟩
  · simp only [List.cons.injEq, and_true] at hcs
    subst hcs
    exact ⟨none, 0, [], rfl, Nat.le_refl _, fun _ => rfl, RowAt.nil _ _⟩
  · simp only [List.cons.injEq, and_true] at hcs
    subst hcs
    simp only [if_true] at hmm
    subst hmm
    obtain ⟨B, hB⟩ := choose_lt (α := UInt8) (p := fun i b => V i = bv b) (fun i hi => by
      obtain ⟨c, h1, _, h3⟩ := DataW.trod_int Try.underlying5 (hel i hi).2
      have h4 := u8_of_wf h3
      simp only [List.cons.injEq, and_true] at h1
      refine ⟨UInt8.ofNat c.toNat, ?_⟩
      rw [h1]
      unfold bv
      congr 1
      rw [UInt8.toNat_ofNat']
      omega)
    refine ⟨some a, m, (List.range len).map B, by simp, by simp; omega, fun h => (by cases h), ?_⟩
    have hr := row_of_cellsC (w := w) (a := a) (n := len) (V := fun i => bv (B i)) (fun i hi => by rw [(hel i (by omega)).1, hB i (by omega)])
    rw [List.map_map]
    exact hr
end
theorem segDecodes_all {w : World} (f : Int) {a : Option Addr} {c : Nat} {b : List UInt8} (hcap : b.length ≤ c) (hnil : a = none → c = 0) (hrow : RowAt w a (b.map bv)) :
    Calls Try.prog 4 #[.int .i64 f, .slice a b.length c] w fun e w' => e = .returned (.bool true) ∧ Below w.heap.size w w' := by
  by_cases hl : b.length ≤ 300000
  · exact segDecodes_walk f hrow hnil hcap hl
  · exact segDecodes_long f a b.length c (by omega)

end Go.Proofs.Ytgfdbcpakcnkpaa
