/- Texts of this claim, one behind the other: SgT. -/
import Derived.Test.YtlmdpcaikhdenaaGreatSe17
import Derived.Deep.RegionHeld3
import Derived.Deep.CutBlock
set_option linter.unusedSimpArgs false
set_option linter.unusedVariables false
/- The reference of records: Read. (printed by gen/rread7.py) -/
namespace Go.Proofs.YtlmdpcaikhdenaaGreat
open Go.RowKit Go.Maps

theorem wp_append_src_at {P : Program} {w : World} {o : Oper} {a : Act} {K : Act → World → Prop} {Q : Exit → Act → World → Prop} (s x : Operand) (t : TypeId)
    (ho : o.op = .call { callee := .builtin .append, args := #[s, x], argTypes := #[t, t] })
    (base : Nat) (e : TypeId) (i : TypeInfo) (z : Value) (bytes : Nat) (ht : P.underlying t = some (.slice e)) (hi : P.info? e = some i) (hz : i.zero = some z)
    (hsize : i.size = 1) (hby : i.bytes = bytes) (hzs : z.cells.size = 1)
    (v : Value) (n : Nat) (xs : List Value) (hs : a.eval s = v) (hown : w.ownsRow base e 1 v n xs)
    (sa : Option Addr) (m c : Nat) (news : List Value) (hx : a.eval x = .slice sa m c) (hl : news.length = m) (hnil : sa = none → c = 0) (hnews : RowAt w sa news) (h1 : ∀ u ∈ news, u.oneCell' = true)
    (h63 : n + m ≤ maxLen) (hbytes : (n + m) * bytes ≤ 140737488355328) (hbase : base ≤ w.heap.size)
    (h : ∀ v' w', w'.ownsRow base e 1 v' (n + m) (xs ++ news) → w.grownBy w' v.ownBlock → (v'.ownBlock = v.ownBlock ∨ v'.ownBlock = some w.heap.size) → K (a.put o.dst v') w') : o.wp P a w K Q := by
  cases sa with
  | none =>
    have hn : news = [] := by
      by_cases hne : news = []
      · exact hne
      · obtain ⟨b, off, e, _⟩ := hnews hne; cases e
    subst hn
    obtain rfl : m = 0 := by simpa using hl.symm
    obtain rfl : c = 0 := hnil rfl
    have hrun := run_append_owned_none (P := P) (w := w) base t o.type e i 1 ht hi v n xs hown
    have hk := h v w (by simpa using hown) ⟨rfl, rfl, rfl, Nat.le_refl _, fun _ _ _ => rfl⟩ (.inl rfl)
    unfold Oper.wp
    simp [execOp, ho, resolve, invoke, builtin, hs, hx, hrun, Result.andThen]
    exact hk
  | some ad =>
    obtain ⟨v', w', hr, h2, h3, _, h5⟩ := run_append_own_at (P := P) w base t o.type e i z 1 bytes ht hi hz hsize hby hzs (by decide) v n xs hown ad m c news (by omega) (by
      intro j u hu
      have hne : news ≠ [] := by intro e; subst e; simp at hu
      obtain ⟨b, off, e, hc⟩ := hnews hne
      cases e
      have := hc j u hu
      rwa [show (⟨b, off, none⟩ : Addr).add j = ⟨b, off + j, none⟩ from by unfold Addr.add; split <;> simp_all]) h1 h63 hbytes hbase
    have hk := h v' w' h2 h3 h5
    unfold Oper.wp
    simp [execOp, ho, resolve, invoke, builtin, hs, hx, hr, Result.andThen]
    exact hk
theorem unbe4 (a b c d : UInt8) : unbe [a, b, c, d] = a.toNat * 16777216 + b.toNat * 65536 + c.toNat * 256 + d.toNat := by
  simp [unbe]
  omega
theorem num4 {b : List UInt8} (h : 5 ≤ b.length) : ∃ x1 x2 x3 x4 : UInt8, b[1]? = some x1 ∧ b[2]? = some x2 ∧ b[3]? = some x3 ∧ b[4]? = some x4 ∧ readN b = x1.toNat * 16777216 + x2.toNat * 65536 + x3.toNat * 256 + x4.toNat := by
  match b, h with
  | a0 :: a1 :: a2 :: a3 :: a4 :: r, _ => exact ⟨a1, a2, a3, a4, rfl, rfl, rfl, rfl, by rw [← unbe4]; unfold readN; simp⟩
theorem wrap64_small {n : Int} (h0 : 0 ≤ n) (h1 : n < 9223372036854775808) : wrap64 n = n := by unfold wrap64; omega
theorem sums4 {y1 y2 y3 y4 N : Nat} (h1 : y1 < 256) (h2 : y2 < 256) (h3 : y3 < 256) (h4 : y4 < 256) (hN : N = y1 * 16777216 + y2 * 65536 + y3 * 256 + y4) :
    wrap64 (wrap64 (wrap64 (wrap64 (wrap64 (y1 : Int) * 16777216) + wrap64 (wrap64 (y2 : Int) * 65536)) + wrap64 (wrap64 (y3 : Int) * 256)) + wrap64 (y4 : Int)) = (N : Int) := by
  have b1 : (y1 : Int) < 256 := by omega
  have b2 : (y2 : Int) < 256 := by omega
  have b3 : (y3 : Int) < 256 := by omega
  have b4 : (y4 : Int) < 256 := by omega
  have hNi : (N : Int) = (y1 : Int) * 16777216 + (y2 : Int) * 65536 + (y3 : Int) * 256 + (y4 : Int) := by omega
  rw [wrap64_small (n := (y1 : Int)) (by omega) (by omega), wrap64_small (n := (y2 : Int)) (by omega) (by omega), wrap64_small (n := (y3 : Int)) (by omega) (by omega), wrap64_small (n := (y4 : Int)) (by omega) (by omega),
    wrap64_small (n := (y1 : Int) * 16777216) (by omega) (by omega), wrap64_small (n := (y2 : Int) * 65536) (by omega) (by omega), wrap64_small (n := (y3 : Int) * 256) (by omega) (by omega),
    wrap64_small (n := (y1 : Int) * 16777216 + (y2 : Int) * 65536) (by omega) (by omega), wrap64_small (n := (y1 : Int) * 16777216 + (y2 : Int) * 65536 + (y3 : Int) * 256) (by omega) (by omega), wrap64_small (by omega) (by omega), hNi]
theorem BytesIn.own {w : World} {R : Nat → Prop} {v : Value} {l : List UInt8} (h : BytesIn w R v l) : BytesIn w (fun x => v.ownBlock = some x) v l := by
  obtain ⟨a, c, rfl, h1, h2, h3, h4, h5, h6⟩ := h
  exact ⟨a, c, rfl, h1, h2, h3, (fun x hx => by subst hx; rfl), h5, h6⟩
set_option maxRecDepth 100000 in
set_option maxHeartbeats 16000000 in
theorem rread_any {w : World} {a : Option Addr} {c : Nat} {b : List UInt8} (hrow : RowAt w a (b.map bv)) (hnil : a = none → c = 0) (hcap : b.length ≤ c) (hl : b.length ≤ 140737488350000) :
    Calls Tryz.prog 140 #[.slice a b.length c] w (RecPost w b) := by
  have hmax : maxLen = 9223372036854775807 := rfl
  obtain ⟨i0, hi, hz0, hz1, hz2⟩ := info_parts Tryz.info5
  obtain ⟨w1, hw1⟩ : ∃ w1, (w.alloc (.cells #[.int .u8 0, .slice none 0 0] 94)).alloc (.cells #[.int .u8 0, .slice none 0 0] 94) = w1 := ⟨_, rfl⟩
  have hb1 : Below w.heap.size w w1 := by rw [← hw1]; exact (below_alloc w _).alloc (by simp) _
  have hz1' : w1.heap.size = w.heap.size + 2 := by rw [← hw1]; simp
  have k2 : w1.heap[w.heap.size]? = some (.cells #[.int .u8 0, .slice none 0 0] 94 (0, 0)) := by rw [← hw1]; exact (Below.heap_alloc _ _ _ (by simp)).trans (World.alloc_heap_new w _)
  have k5 : w1.heap[w.heap.size + 1]? = some (.cells #[.int .u8 0, .slice none 0 0] 94 (0, 0)) := by rw [← hw1]; have := World.alloc_heap_new (w.alloc (.cells #[.int .u8 0, .slice none 0 0] 94)) (.cells #[.int .u8 0, .slice none 0 0] 94); rwa [World.size_alloc] at this
  have hrow1 := hrow.below hb1
  have r0 := cell_of_heap k2 (i := 0) (v := .int .u8 0) (by rfl)
  have r1 := cell_of_heap k2 (i := 1) (v := .slice none 0 0) (by rfl)
  have rz0 := frozen_of_heap (i := 0) k2
  have rz1 := frozen_of_heap (i := 1) k2
  have x0 := cell_of_heap k5 (i := 0) (v := .int .u8 0) (by rfl)
  have x1 := cell_of_heap k5 (i := 1) (v := .slice none 0 0) (by rfl)
  have xz0 := frozen_of_heap (i := 0) k5
  have xz1 := frozen_of_heap (i := 1) k5
  have K2 := Lib.hid k2
  have K5 := Lib.hid k5
  have HB := Lib.hid hb1
  have HZ := Lib.hid hz1'
  have HW := Lib.hid hw1
  clear hw1 k2 k5 hb1 hz1'
  by_cases h0 : b.length = 0
  · have hE : readE b = 170 := by unfold readE; rw [if_pos h0]
    have HE := Lib.hid hE
    have g0 : ((b.length : Int) == 0) = true := by simp [h0]
    clear hE h0
    go_enter Tryz.func140, Tryz.ntmps140
    go_wp2_with (rw [HW.out])
    obtain ⟨Y, hY, hyx, hcY⟩ := set2 (x := .int .u8 0) (y := .slice none 0 0) K2.out
    rw [hY]
    have y0 := cell_of_heap hyx (i := 0) (v := .int .u8 0) (by rfl)
    have y1 := cell_of_heap hyx (i := 1) (v := .slice none 0 0) (by rfl)
    exact bodyPost_ret (v := .tuple #[.agg #[.int .u8 0, .slice none 0 0], .int .i64 0, .int .i64 170]) (by simp [results, Tryz.results140, go_sem, y0, y1]) rfl (.inr ⟨by rw [HE.out]; decide, by rw [HE.out]; rfl, Chg.ret HB.out (Nat.le_refl _) hcY⟩)
  have g0 : ((b.length : Int) == 0) = false := by rw [beq_eq_false_iff_ne]; omega
  obtain ⟨bb, oo, rfl, hc⟩ := hrow1 (by intro e; exact h0 (by have := congrArg List.length e; simpa using this))
  have hget' : ∀ (j : Nat) x, b[j]? = some x → w1.cell? ⟨bb, oo + j, none⟩ = some (.int .u8 (x.toNat : Int)) := fun j x hj => hc j _ (by rw [List.getElem?_map, hj]; rfl)
  obtain ⟨kd, hkd⟩ : ∃ kd, readK b = kd := ⟨_, rfl⟩
  have hkd0 : b[0]? = some kd := by rw [← hkd]; unfold readK; rw [List.getD_eq_getElem?_getD, List.getElem?_eq_getElem (by omega)]; rfl
  have e0 : w1.cell? ⟨bb, oo, none⟩ = some (.int .u8 (kd.toNat : Int)) := hget' 0 kd hkd0
  have hlen0 : (0 : Int) < (b.length : Int) := by omega
  have hlen0' : 0 < b.length := by omega
  by_cases hk0 : kd = 0
  · have hE : readE b = 171 := by unfold readE; rw [if_neg h0, if_pos (show b.getD 0 0 = 0 from hkd.trans hk0)]
    have gk : ((kd.toNat : Int) == 0) = true := by rw [hk0]; rfl
    have HE := Lib.hid hE
    clear hE h0 hk0 hkd hkd0 hget' hc
    go_enter Tryz.func140, Tryz.ntmps140
    go_wp2_with (rw [HW.out])
    obtain ⟨Y, hY, hyx, hcY⟩ := set2 (x := .int .u8 0) (y := .slice none 0 0) K2.out
    rw [hY]
    have y0 := cell_of_heap hyx (i := 0) (v := .int .u8 0) (by rfl)
    have y1 := cell_of_heap hyx (i := 1) (v := .slice none 0 0) (by rfl)
    exact bodyPost_ret (v := .tuple #[.agg #[.int .u8 0, .slice none 0 0], .int .i64 0, .int .i64 171]) (by simp [results, Tryz.results140, go_sem, y0, y1]) rfl (.inr ⟨by rw [HE.out]; decide, by rw [HE.out]; rfl, Chg.ret HB.out (Nat.le_refl _) hcY⟩)
  have gk : ((kd.toNat : Int) == 0) = false := by
    rw [beq_eq_false_iff_ne]
    intro e
    exact hk0 (UInt8.toNat_inj.1 (by simpa using e))
  have hnk : ¬ b.getD 0 0 = 0 := fun e => hk0 (by rw [← hkd]; exact e)
  by_cases h5 : b.length < 5
  · have hE : readE b = 170 := by unfold readE; rw [if_neg h0, if_neg hnk, if_pos h5]
    have g5 : decide ((b.length : Int) < 5) = true := by simp; omega
    have HE := Lib.hid hE
    clear hE h0 hk0 hkd hkd0 hget' hc h5 hnk
    go_enter Tryz.func140, Tryz.ntmps140
    go_wp2_with (rw [HW.out])
    obtain ⟨Y, hY, hyx, hcY⟩ := set2 (x := .int .u8 0) (y := .slice none 0 0) K2.out
    rw [hY]
    have y0 := cell_of_heap hyx (i := 0) (v := .int .u8 0) (by rfl)
    have y1 := cell_of_heap hyx (i := 1) (v := .slice none 0 0) (by rfl)
    exact bodyPost_ret (v := .tuple #[.agg #[.int .u8 0, .slice none 0 0], .int .i64 0, .int .i64 170]) (by simp [results, Tryz.results140, go_sem, y0, y1]) rfl (.inr ⟨by rw [HE.out]; decide, by rw [HE.out]; rfl, Chg.ret HB.out (Nat.le_refl _) hcY⟩)
  have g5 : decide ((b.length : Int) < 5) = false := by simp; omega
  obtain ⟨N, hN⟩ : ∃ N, readN b = N := ⟨_, rfl⟩
  obtain ⟨x1, x2, x3, x4, hx1, hx2, hx3, hx4, hNv⟩ := num4 (b := b) (by omega)
  rw [hN] at hNv
  have e1 := hget' 1 x1 hx1
  have e2 := hget' 2 x2 hx2
  have e3 := hget' 3 x3 hx3
  have e4 := hget' 4 x4 hx4
  have l1 := x1.toNat_lt
  have l2 := x2.toNat_lt
  have l3 := x3.toNat_lt
  have l4 := x4.toNat_lt
  obtain ⟨y1, hy1⟩ : ∃ y, x1.toNat = y := ⟨_, rfl⟩
  obtain ⟨y2, hy2⟩ : ∃ y, x2.toNat = y := ⟨_, rfl⟩
  obtain ⟨y3, hy3⟩ : ∃ y, x3.toNat = y := ⟨_, rfl⟩
  obtain ⟨y4, hy4⟩ : ∃ y, x4.toNat = y := ⟨_, rfl⟩
  rw [hy1] at e1 hNv l1
  rw [hy2] at e2 hNv l2
  rw [hy3] at e3 hNv l3
  rw [hy4] at e4 hNv l4
  clear hx1 hx2 hx3 hx4 hy1 hy2 hy3 hy4 x1 x2 x3 x4
  have HWN := Lib.hid (sums4 l1 l2 l3 l4 hNv)
  have hNl : N < 4294967296 := by omega
  have j1 : (1 : Int) < (b.length : Int) := by omega
  have j2 : (2 : Int) < (b.length : Int) := by omega
  have j3 : (3 : Int) < (b.length : Int) := by omega
  have j4 : (4 : Int) < (b.length : Int) := by omega
  have HNL := Lib.hid hNl
  have HL14 := Lib.hid (And.intro l1 (And.intro l2 (And.intro l3 l4)))
  clear hNv hget' hc hNl l1 l2 l3 l4
  go_enter Tryz.func140, Tryz.ntmps140
  go_upto_region 8 with (rw [HW.out])
  go_quiet (fail)
  have hbq : Below w1.heap.size w1 (w1.drewN nq) := below_drewN (Below.refl _ _) nq
  obtain ⟨w2, hw2⟩ : ∃ w2, w1.drewN nq = w2 := ⟨_, rfl⟩
  rw [hw2] at hbq ⊢
  rw [HWN.out]
  have k22 := (hbq.block _ (heap_lt K2.out)).trans K2.out
  have k52 := (hbq.block _ (heap_lt K5.out)).trans K5.out
  have hb2 := HB.out.trans (hbq.mono HB.out.size)
  clear r0 r1 rz0 rz1 x0 x1 xz0 xz1 e1 e2 e3 e4 hw2 j1 j2 j3 j4
  have r0 := cell_of_heap k22 (i := 0) (v := .int .u8 0) (by rfl)
  have r1 := cell_of_heap k22 (i := 1) (v := .slice none 0 0) (by rfl)
  have rz0 := frozen_of_heap (i := 0) k22
  have rz1 := frozen_of_heap (i := 1) k22
  have x0 := cell_of_heap k52 (i := 0) (v := .int .u8 0) (by rfl)
  have x1 := cell_of_heap k52 (i := 1) (v := .slice none 0 0) (by rfl)
  have xz0 := frozen_of_heap (i := 0) k52
  have xz1 := frozen_of_heap (i := 1) k52
  have e0' := (hbq.cell (p := ⟨bb, oo, none⟩) (cell_lt e0)).trans e0
  have hN0 : (0 : Int) ≤ (N : Int) := by omega
  by_cases hM : 8388608 < N
  · have hE : readE b = 3 := by unfold readE; rw [if_neg h0, if_neg hnk, if_neg h5, if_pos (show 8388608 < unbe ((b.drop 1).take 4) by rw [← hN] at hM; exact hM)]
    have HE := Lib.hid hE
    have g6 : decide ((8388608 : Int) < (N : Int)) = true := by simp; omega
    have K22 := Lib.hid k22
    have HB2 := Lib.hid hb2
    clear hE h0 hk0 hkd hkd0 h5 hnk hM hN k22 k52 hb2
    go_wp2_with fail
    obtain ⟨Y, hY, hyx, hcY⟩ := set2 (x := .int .u8 0) (y := .slice none 0 0) K22.out
    rw [hY]
    have y0 := cell_of_heap hyx (i := 0) (v := .int .u8 0) (by rfl)
    have y1 := cell_of_heap hyx (i := 1) (v := .slice none 0 0) (by rfl)
    exact bodyPost_ret (v := .tuple #[.agg #[.int .u8 0, .slice none 0 0], .int .i64 0, .int .i64 3]) (by simp [results, Tryz.results140, go_sem, y0, y1]) rfl (.inr ⟨by rw [HE.out]; decide, by rw [HE.out]; rfl, Chg.ret HB2.out (Nat.le_refl _) hcY⟩)
  have g6 : decide ((8388608 : Int) < (N : Int)) = false := by simp; omega
  have hN1 : (N : Int) ≤ 8388608 := by omega
  by_cases hS : b.length < N + 9
  · have hE : readE b = 170 := by
      have hM' : ¬ 8388608 < unbe ((b.drop 1).take 4) := by show ¬ 8388608 < readN b; rw [hN]; exact hM
      have hS' : b.length < unbe ((b.drop 1).take 4) + 9 := by show b.length < readN b + 9; rw [hN]; exact hS
      unfold readE; rw [if_neg h0, if_neg hnk, if_neg h5, if_neg hM', if_pos hS']
    have HE := Lib.hid hE
    have g7 : decide ((b.length : Int) < (N : Int) + 9) = true := by simp; omega
    have K22 := Lib.hid k22
    have HB2 := Lib.hid hb2
    clear hE h0 hk0 hkd hkd0 h5 hnk hM hN k22 k52 hb2
    go_wp2_with fail
    obtain ⟨Y, hY, hyx, hcY⟩ := set2 (x := .int .u8 0) (y := .slice none 0 0) K22.out
    rw [hY]
    have y0 := cell_of_heap hyx (i := 0) (v := .int .u8 0) (by rfl)
    have y1 := cell_of_heap hyx (i := 1) (v := .slice none 0 0) (by rfl)
    exact bodyPost_ret (v := .tuple #[.agg #[.int .u8 0, .slice none 0 0], .int .i64 0, .int .i64 170]) (by simp [results, Tryz.results140, go_sem, y0, y1]) rfl (.inr ⟨by rw [HE.out]; decide, by rw [HE.out]; rfl, Chg.ret HB2.out (Nat.le_refl _) hcY⟩)
  have g7 : decide ((b.length : Int) < (N : Int) + 9) = false := by simp; omega
  have hE0 : readE b = if ends (b.take (5 + N)) ≠ (b.drop (5 + N)).take 4 then 172 else 0 := by
    have hM' : ¬ 8388608 < unbe ((b.drop 1).take 4) := by show ¬ 8388608 < readN b; rw [hN]; exact hM
    have hS' : ¬ b.length < unbe ((b.drop 1).take 4) + 9 := by show ¬ b.length < readN b + 9; rw [hN]; exact hS
    rw [← hN]
    unfold readE; rw [if_neg h0, if_neg hnk, if_neg h5, if_neg hM', if_neg hS']
    rfl
  have hBL : (b.drop 5).take N = readB b := by rw [← hN]; rfl
  have hlC : ((b.drop 5).take N).length = N := by simp; omega
  have hsC := run_slice_lh' (P := Tryz.prog) 26 5 Tryz.underlying26 Tryz.sizeOf5 (some ⟨bb, oo, none⟩) b.length c 5 (5 + N) (by omega) (by omega)
  rw [show ((5 + N : Nat) : Int) = 5 + (N : Int) from by omega, show ((5 : Nat) : Int) = 5 from rfl, show 5 + N - 5 = N from by omega] at hsC
  have hrow2 := hrow1.below hbq
  have hrC : RowAt w2 (subAt (some ⟨bb, oo, none⟩) c 5) (((b.drop 5).take N).map bv) := by rw [List.map_take, List.map_drop]; exact (hrow2.drop c 5 (by simpa using hcap)).take N
  have hnC : subAt (some ⟨bb, oo, none⟩) c 5 = none → c - 5 = 0 := fun e => by have := subAt_none.1 e; cases this
  rw [hBL] at hlC hrC
  obtain ⟨BL, hbl⟩ : ∃ BL, readB b = BL := ⟨_, rfl⟩
  rw [hbl] at hlC hrC
  have hS9 : N + 9 ≤ b.length := by omega
  have hw5 : IntKind.i64.wrap (5 + (N : Int)) = 5 + (N : Int) := Go.IntWalk.i64_in _ (by omega)
  have hw9 : IntKind.i64.wrap (9 + (N : Int)) = 9 + (N : Int) := Go.IntWalk.i64_in _ (by omega)
  have HE0 := Lib.hid hE0
  have HBLH := Lib.hid hbl
  have HKD := Lib.hid hkd
  have HNN := Lib.hid hN
  have HS9 := Lib.hid hS9
  have HB2 := Lib.hid hb2
  have HBQ := Lib.hid hbq
  have K22 := Lib.hid k22
  have K52 := Lib.hid k52
  have HR2 := Lib.hid hrow2
  clear hE0 h0 hk0 hkd hkd0 h5 hnk hM hN k22 k52 hb2 hS hBL hbl hS9 hbq hrow2
  go_upto_region 13 with fail
  go_cut [7] from 52 to 60 (fun s7 wx => ∃ g ua uc, s7 = .pointer (some ⟨g, 0, none⟩) ∧ wx.heap[g]? = some (.cells #[.int .u8 (kd.toNat : Int), .slice ua N uc] 94 (0, 0)) ∧ BytesIn wx (fun x => w2.heap.size ≤ x) (.slice ua N uc) BL ∧ Below w2.heap.size w2 wx ∧ w2.heap.size ≤ g)
  case first =>
    refine wp_region_held_drew (S := fun w' => w'.cell? ⟨bb, oo, none⟩ = some (.int .u8 (kd.toNat : Int))) (by kernel_rfl) (e0') (fun hHeld => ?_)
    refine wpAnyH_take (i := 0) (v := ?_) rfl (by kernel_rfl) (by kernel_rfl) (by kernel_rfl) (fun _ _ _ h => h) (Or.inl ⟨by rfl, ?_⟩) hHeld ?_
    rotate_left
    · intro w hSw; (try dsimp only at hSw); go_simp
      all_goals (with_reducible rfl)
    (try simp only [Act.put, List.getElem_toArray, List.getElem_cons_succ, List.getElem_cons_zero, List.setIfInBounds_toArray, List.set_cons_zero, List.set_cons_succ])
    refine wpAnyH_take (i := 1) (v := ?_) rfl (by kernel_rfl) (by kernel_rfl) (by kernel_rfl) (fun _ _ _ h => h) (Or.inl ⟨by rfl, ?_⟩) hHeld ?_
    rotate_left
    · intro w hSw; (try dsimp only at hSw); go_simp
      all_goals (with_reducible rfl)
    (try simp only [Act.put, List.getElem_toArray, List.getElem_cons_succ, List.getElem_cons_zero, List.setIfInBounds_toArray, List.set_cons_zero, List.set_cons_succ])
    refine wpAnyH_take (i := 2) (v := ?_) rfl (by kernel_rfl) (by kernel_rfl) (by kernel_rfl) (fun _ _ _ h => h) (Or.inl ⟨by rfl, ?_⟩) hHeld ?_
    rotate_left
    · intro w hSw; (try dsimp only at hSw); go_simp
      all_goals (with_reducible rfl)
    (try simp only [Act.put, List.getElem_toArray, List.getElem_cons_succ, List.getElem_cons_zero, List.setIfInBounds_toArray, List.set_cons_zero, List.set_cons_succ])
    refine wpAnyH_take (i := 3) (v := ?_) rfl (by kernel_rfl) (by kernel_rfl) (by kernel_rfl) (fun _ _ _ h => h) (Or.inl ⟨by rfl, ?_⟩) hHeld ?_
    rotate_left
    · intro w hSw; (try dsimp only at hSw); go_simp
      all_goals (with_reducible rfl)
    (try simp only [Act.put, List.getElem_toArray, List.getElem_cons_succ, List.getElem_cons_zero, List.setIfInBounds_toArray, List.set_cons_zero, List.set_cons_succ])
    refine wpAnyH_take (i := 4) (v := ?_) rfl (by kernel_rfl) (by kernel_rfl) (by kernel_rfl) (fun _ _ _ h => h) (Or.inl ⟨by rfl, ?_⟩) hHeld ?_
    rotate_left
    · intro w hSw; (try dsimp only at hSw); go_simp
      all_goals (with_reducible rfl)
    (try simp only [Act.put, List.getElem_toArray, List.getElem_cons_succ, List.getElem_cons_zero, List.setIfInBounds_toArray, List.set_cons_zero, List.set_cons_succ])
    refine wpAnyH_take (i := 5) (v := ?_) rfl (by kernel_rfl) (by kernel_rfl) (by kernel_rfl) (fun _ _ _ h => h) (Or.inl ⟨by rfl, ?_⟩) hHeld ?_
    rotate_left
    · intro w hSw; (try dsimp only at hSw); go_simp
      all_goals (with_reducible rfl)
    (try simp only [Act.put, List.getElem_toArray, List.getElem_cons_succ, List.getElem_cons_zero, List.setIfInBounds_toArray, List.set_cons_zero, List.set_cons_succ])
    refine wpAnyH_take (i := 6) (v := ?_) rfl (by kernel_rfl) (by kernel_rfl) (by kernel_rfl) (fun _ _ _ h => h) (Or.inl ⟨by rfl, ?_⟩) hHeld ?_
    rotate_left
    · intro w hSw; (try dsimp only at hSw); go_simp
      all_goals (with_reducible rfl)
    (try simp only [Act.put, List.getElem_toArray, List.getElem_cons_succ, List.getElem_cons_zero, List.setIfInBounds_toArray, List.set_cons_zero, List.set_cons_succ])
    refine wpAnyH_ready (rs := [7, 9]) (by kernel_rfl) (by simp) ?_
    refine (AllReadyH.cons rfl (fun K hK => ?_) (AllReadyH.cons rfl (fun K hK => ?_) (AllReadyH.nil)))
    · rw [if_pos (by rfl)]
      refine wp_append_src_at (.const (.slice none 0 0)) (.tmp 58) 26 rfl 0 5 i0 (.int .u8 0) 1 Tryz.underlying26 hi hz0 hz1 hz2 rfl (.slice none 0 0) 0 [] rfl (World.ownsRow_nil _ _ _ _) (subAt (some ⟨bb, oo, none⟩) c 5) N (c - 5) (BL.map bv) rfl (by simpa using hlC) hnC (fun hh => hrC hh) (by intro u hu; obtain ⟨_, _, rfl⟩ := List.mem_map.1 hu; rfl) (by omega) (by omega) (Nat.zero_le _) ?_
      intro v7 w7 hv7 hg7 hat7
      rw [Nat.zero_add, List.nil_append] at hv7
      have hgg : Grew (.slice none 0 0) w2.drew v7 w7 := Grew.append hg7 hat7
      have hb7 : Below w2.heap.size w2 w7 := (below_drewN (Below.refl w2.heap.size w2) 1).trans (hgg.1.below (fun k hk => by cases hk))
      obtain ⟨sa, sc, rfl, _, _⟩ := RowAt.of_owns hv7
      have e07 := (hb7.cell (p := ⟨bb, oo, none⟩) (cell_lt (show w2.cell? ⟨bb, oo, none⟩ = _ from e0'))).trans e0'
      have hV7 : BytesIn w7 (fun x => w2.heap.size ≤ x) (.slice sa N sc) BL := BytesIn.of_owns (R := fun x => w2.heap.size ≤ x) (base := w2.heap.size) (ownsRow_from hv7 (fun g hg => by
        rcases hgg.2 with h | ⟨g', h, hle⟩
        · rw [h] at hg; cases hg
        · rw [h] at hg; cases hg; exact hle)) (fun b h _ => h)
      refine hK.out _ _ (e07) (fun hHeld => ?_)
      clear hK K
      (try simp only [Act.put, List.getElem_toArray, List.getElem_cons_succ, List.getElem_cons_zero, List.setIfInBounds_toArray, List.set_cons_zero, List.set_cons_succ])
      refine wpAnyH_take (i := 8) (v := ?_) rfl (by kernel_rfl) (by kernel_rfl) (by kernel_rfl) (fun _ _ _ h => h) (Or.inl ⟨by rfl, ?_⟩) hHeld ?_
      rotate_left
      · intro w hSw; (try dsimp only at hSw); go_simp
        all_goals (with_reducible rfl)
      (try simp only [Act.put, List.getElem_toArray, List.getElem_cons_succ, List.getElem_cons_zero, List.setIfInBounds_toArray, List.set_cons_zero, List.set_cons_succ])
      refine wpAnyH_ready (rs := [9]) (by kernel_rfl) (by simp) ?_
      refine (AllReadyH.cons rfl (fun K hK => ?_) (AllReadyH.nil))
      go_simp
      have hb8 : Below w2.heap.size w2 (w7.alloc (.cells #[.int .u8 0, .slice none 0 0] 94)) := hb7.trans ((below_alloc w7 _).mono hb7.size)
      have e08 := (hb8.cell (p := ⟨bb, oo, none⟩) (cell_lt (show w2.cell? ⟨bb, oo, none⟩ = _ from e0'))).trans e0'
      refine hK.out _ _ (e08) (fun hHeld => ?_)
      clear hK K
      (try simp only [Act.put, List.getElem_toArray, List.getElem_cons_succ, List.getElem_cons_zero, List.setIfInBounds_toArray, List.set_cons_zero, List.set_cons_succ])
      refine wpAnyH_ready (rs := [10]) (by kernel_rfl) (by simp) ?_
      refine (AllReadyH.cons rfl (fun K hK => ?_) (AllReadyH.nil))
      go_simp
      obtain ⟨w9, hw9'⟩ : ∃ w9, w7.alloc (.cells #[.int .u8 (kd.toNat : Int), .slice sa N sc] 94) = w9 := ⟨_, rfl⟩
      have hb9 : Below w2.heap.size w2 w9 := (by rw [← hw9']; exact hb7.trans ((below_alloc w7 _).mono hb7.size))
      have hx9 : w9.heap[w7.heap.size]? = some (.cells #[.int .u8 (kd.toNat : Int), .slice sa N sc] 94 (0, 0)) := (by rw [← hw9']; exact World.alloc_heap_new w7 _)
      have hV9 := hV7.kept (w' := w9) (R' := fun x => w2.heap.size ≤ x) (Chg.of_below (O := fun _ => False) (by rw [← hw9']; exact below_alloc w7 _)) (fun _ _ h => h) (fun _ h => h)
      have e09 := (hb9.cell (p := ⟨bb, oo, none⟩) (cell_lt (show w2.cell? ⟨bb, oo, none⟩ = _ from e0'))).trans e0'
      have hs7 := hb7.size
      rw [hw9']
      refine hK.out _ _ (e09) (fun hHeld => ?_)
      clear hK K
      (try simp only [Act.put, List.getElem_toArray, List.getElem_cons_succ, List.getElem_cons_zero, List.setIfInBounds_toArray, List.set_cons_zero, List.set_cons_succ])
      refine wpAnyH_done (by kernel_rfl) ?_ _
      clear hHeld
      go_wp2_with fail
      go_meet
      case rel => exact ⟨_, _, _, rfl, hx9, hV9, hb9, hs7⟩
    · go_simp
      obtain ⟨w6, hw6⟩ : ∃ w6, (w2.alloc (.cells #[.int .u8 0, .slice none 0 0] 94)).drew = w6 := ⟨_, rfl⟩
      have hb6 : Below w2.heap.size w2 w6 := (by rw [← hw6]; exact below_drewN (below_alloc w2 _) 1)
      have hx6 : w6.heap[w2.heap.size]? = some (.cells #[.int .u8 0, .slice none 0 0] 94 (0, 0)) := (by rw [← hw6]; exact World.alloc_heap_new w2 _)
      have e06 := (hb6.cell (p := ⟨bb, oo, none⟩) (cell_lt (show w2.cell? ⟨bb, oo, none⟩ = _ from e0'))).trans e0'
      have hrC6 : RowAt w6 (subAt (some ⟨bb, oo, none⟩) c 5) (BL.map bv) := RowAt.below (fun hh => hrC hh) hb6
      rw [hw6]
      refine hK.out _ _ (e06) (fun hHeld => ?_)
      clear hK K
      (try simp only [Act.put, List.getElem_toArray, List.getElem_cons_succ, List.getElem_cons_zero, List.setIfInBounds_toArray, List.set_cons_zero, List.set_cons_succ])
      refine wpAnyH_ready (rs := [7]) (by kernel_rfl) (by simp) ?_
      refine (AllReadyH.cons rfl (fun K hK => ?_) (AllReadyH.nil))
      rw [if_pos (by rfl)]
      refine wp_append_src_at (.const (.slice none 0 0)) (.tmp 58) 26 rfl 0 5 i0 (.int .u8 0) 1 Tryz.underlying26 hi hz0 hz1 hz2 rfl (.slice none 0 0) 0 [] rfl (World.ownsRow_nil _ _ _ _) (subAt (some ⟨bb, oo, none⟩) c 5) N (c - 5) (BL.map bv) rfl (by simpa using hlC) hnC (fun hh => hrC6 hh) (by intro u hu; obtain ⟨_, _, rfl⟩ := List.mem_map.1 hu; rfl) (by omega) (by omega) (Nat.zero_le _) ?_
      intro v7 w7 hv7 hg7 hat7
      rw [Nat.zero_add, List.nil_append] at hv7
      have hgg : Grew (.slice none 0 0) w6 v7 w7 := Grew.append hg7 hat7
      have hb7 : Below w2.heap.size w2 w7 := hb6.trans ((hgg.1.below (fun k hk => by cases hk)).mono hb6.size)
      obtain ⟨sa, sc, rfl, _, _⟩ := RowAt.of_owns hv7
      have e07 := (hb7.cell (p := ⟨bb, oo, none⟩) (cell_lt (show w2.cell? ⟨bb, oo, none⟩ = _ from e0'))).trans e0'
      have hV7 : BytesIn w7 (fun x => w2.heap.size ≤ x) (.slice sa N sc) BL := BytesIn.of_owns (R := fun x => w2.heap.size ≤ x) (base := w2.heap.size) (ownsRow_from hv7 (fun g hg => by
        rcases hgg.2 with h | ⟨g', h, hle⟩
        · rw [h] at hg; cases hg
        · rw [h] at hg; cases hg; have := hb6.size; omega)) (fun b h _ => h)
      refine hK.out _ _ (e07) (fun hHeld => ?_)
      clear hK K
      (try simp only [Act.put, List.getElem_toArray, List.getElem_cons_succ, List.getElem_cons_zero, List.setIfInBounds_toArray, List.set_cons_zero, List.set_cons_succ])
      refine wpAnyH_take (i := 8) (v := ?_) rfl (by kernel_rfl) (by kernel_rfl) (by kernel_rfl) (fun _ _ _ h => h) (Or.inl ⟨by rfl, ?_⟩) hHeld ?_
      rotate_left
      · intro w hSw; (try dsimp only at hSw); go_simp
        all_goals (with_reducible rfl)
      (try simp only [Act.put, List.getElem_toArray, List.getElem_cons_succ, List.getElem_cons_zero, List.setIfInBounds_toArray, List.set_cons_zero, List.set_cons_succ])
      refine wpAnyH_ready (rs := [10]) (by kernel_rfl) (by simp) ?_
      refine (AllReadyH.cons rfl (fun K hK => ?_) (AllReadyH.nil))
      have hx7 : w7.heap[w2.heap.size]? = some (.cells #[.int .u8 0, .slice none 0 0] 94 (0, 0)) := ((hgg.1.below (fun k hk => by cases hk)).block _ (heap_lt hx6)).trans hx6
      have q0 := cell_of_heap hx7 (i := 0) (v := .int .u8 0) (by rfl)
      have q1 := cell_of_heap hx7 (i := 1) (v := .slice none 0 0) (by rfl)
      have qz0 := frozen_of_heap (i := 0) hx7
      have qz1 := frozen_of_heap (i := 1) hx7
      go_simp
      obtain ⟨w9, hw9', hx9, hcY⟩ := set2 (x := .int .u8 (kd.toNat : Int)) (y := .slice sa N sc) hx7
      rw [hw9']
      have hne7 : ∀ k, (Value.slice sa N sc).ownBlock = some k → k ≠ w2.heap.size := fun k hk => by
        rcases hgg.2 with h | ⟨g', h, hle⟩
        · rw [h] at hk; cases hk
        · rw [h] at hk; cases hk; have := hb6.size; have := heap_lt hx6; omega
      have hb9 : Below w2.heap.size w2 w9 := Chg.ret hb7 (Nat.le_refl _) hcY
      have hV9 := (BytesIn.own hV7).kept hcY (fun x hx e => hne7 x hx e) (fun x hx => hV7.block hx)
      have e09 := (hb9.cell (p := ⟨bb, oo, none⟩) (cell_lt (show w2.cell? ⟨bb, oo, none⟩ = _ from e0'))).trans e0'
      refine hK.out _ _ (e09) (fun hHeld => ?_)
      clear hK K
      (try simp only [Act.put, List.getElem_toArray, List.getElem_cons_succ, List.getElem_cons_zero, List.setIfInBounds_toArray, List.set_cons_zero, List.set_cons_succ])
      refine wpAnyH_done (by kernel_rfl) ?_ _
      clear hHeld
      go_wp2_with fail
      go_meet
      case rel => exact ⟨_, _, _, rfl, hx9, hV9, hb9, Nat.le_refl _⟩
  case rest =>
    obtain ⟨g, ua, uc, rfl, hg, hVc, hbc, hgle⟩ := hcut
    have k2c := (hbc.block _ (heap_lt K22.out)).trans K22.out
    have k5c := (hbc.block _ (heap_lt K52.out)).trans K52.out
    have hbwc := HB2.out.trans (hbc.mono HB2.out.size)
    have hrowc := RowAt.below (fun h => HR2.out h) hbc
    have hS9 := HS9.out
    obtain ⟨EL, hEL⟩ : ∃ EL, ends (b.take (5 + N)) = EL := ⟨_, rfl⟩
    obtain ⟨XL, hXL⟩ : ∃ XL, (b.drop (5 + N)).take 4 = XL := ⟨_, rfl⟩
    have hlX : XL.length = 4 := by rw [← hXL]; simp; omega
    have hlA : (b.take (5 + N)).length = 5 + N := by simp; omega
    have hsA := run_slice_lh' (P := Tryz.prog) 26 5 Tryz.underlying26 Tryz.sizeOf5 (some ⟨bb, oo, none⟩) b.length c (5 + N) (9 + N) (by omega) (by omega)
    rw [show ((5 + N : Nat) : Int) = 5 + (N : Int) from by omega, show ((9 + N : Nat) : Int) = 9 + (N : Int) from by omega, show 9 + N - (5 + N) = 4 from by omega] at hsA
    have hsB := run_slice_hi (P := Tryz.prog) 26 5 Tryz.underlying26 Tryz.sizeOf5 (some ⟨bb, oo, none⟩) b.length c (5 + N) (by omega)
    rw [show ((5 + N : Nat) : Int) = 5 + (N : Int) from by omega] at hsB
    have hrX : RowAt wc (subAt (some ⟨bb, oo, none⟩) c (5 + N)) (XL.map bv) := by
      rw [← hXL, List.map_take, List.map_drop]
      exact (RowAt.drop (fun h => hrowc h) c (5 + N) (by simpa using hcap)).take 4
    have hEnd : ∀ W, Below wc.heap.size wc W → Calls Tryz.prog 159 #[.slice (some ⟨bb, oo, none⟩) (5 + N) c] W fun e w' => ∃ U, e = .returned U ∧ BytesIn w' (fun x => W.heap.size ≤ x) U EL ∧ Below W.heap.size W w' := fun W hb => by
      have := rends_any (w := W) (a := some ⟨bb, oo, none⟩) (c := c) (l := b.take (5 + N)) (by rw [List.map_take]; exact (RowAt.below (fun h => hrowc h) hb).take _) (by omega)
      rwa [hlA, hEL] at this
    have hcX : ∀ W, RowAt W (subAt (some ⟨bb, oo, none⟩) c (5 + N)) (XL.map bv) → (convert 26 9 (.slice (subAt (some ⟨bb, oo, none⟩) c (5 + N)) 4 (c - (5 + N)))).run Tryz.prog W = .ok (.string ⟨XL.toArray⟩) W := fun W h => by
      have := run_conv (P := Tryz.prog) (w := W) 26 9 5 Tryz.underlying26 Tryz.underlying5 Tryz.underlying9 (c := c - (5 + N)) h
      rwa [hlX] at this
    have hcE : ∀ W va vc, RowAt W va (EL.map bv) → (convert 26 9 (.slice va EL.length vc)).run Tryz.prog W = .ok (.string ⟨EL.toArray⟩) W := fun W va vc h => run_conv (P := Tryz.prog) (w := W) 26 9 5 Tryz.underlying26 Tryz.underlying5 Tryz.underlying9 (c := vc) h
    have hE1 := HE0.out
    rw [hEL, hXL] at hE1
    have HEnd := Lib.hid hEnd
    have HCX := Lib.hid hcX
    have HCE := Lib.hid hcE
    have HE1 := Lib.hid hE1
    have HBC := Lib.hid hbc
    have HG := Lib.hid hg
    have HVC := Lib.hid hVc
    have HBWC := Lib.hid hbwc
    have K2C := Lib.hid k2c
    have K5C := Lib.hid k5c
    have HGL := Lib.hid hgle
    clear hEnd hcX hcE hE1 hbc hg hVc hbwc k2c k5c hgle hEL hXL hlA hS9 hsC hrC hnC hlC hrow1 hrow hnil hrowc
    go_upto_region 14 with fail
    refine wp_region_held_drew (S := fun w' => RowAt w' (subAt (some ⟨bb, oo, none⟩) c (5 + N)) (XL.map bv)) (by kernel_rfl) (hrX) (fun hHeld => ?_)
    refine wpAnyH_take (i := 0) (v := ?_) rfl (by kernel_rfl) (by kernel_rfl) (by kernel_rfl) (fun _ _ _ h => h) (Or.inl ⟨by rfl, ?_⟩) hHeld ?_
    rotate_left
    · intro w hSw; (try dsimp only at hSw); go_simp
      all_goals (with_reducible rfl)
    (try simp only [Act.put, List.getElem_toArray, List.getElem_cons_succ, List.getElem_cons_zero, List.setIfInBounds_toArray, List.set_cons_zero, List.set_cons_succ])
    refine wpAnyH_take (i := 1) (v := ?_) rfl (by kernel_rfl) (by kernel_rfl) (by kernel_rfl) (fun _ _ _ h => h) (Or.inl ⟨by rfl, ?_⟩) hHeld ?_
    rotate_left
    · intro w hSw; (try dsimp only at hSw); go_simp
      all_goals (with_reducible rfl)
    (try simp only [Act.put, List.getElem_toArray, List.getElem_cons_succ, List.getElem_cons_zero, List.setIfInBounds_toArray, List.set_cons_zero, List.set_cons_succ])
    refine wpAnyH_take (i := 2) (v := ?_) rfl (by kernel_rfl) (by kernel_rfl) (by kernel_rfl) (fun _ _ _ h => h) (Or.inl ⟨by rfl, ?_⟩) hHeld ?_
    rotate_left
    · intro w hSw; (try dsimp only at hSw); go_simp
      all_goals (with_reducible rfl)
    (try simp only [Act.put, List.getElem_toArray, List.getElem_cons_succ, List.getElem_cons_zero, List.setIfInBounds_toArray, List.set_cons_zero, List.set_cons_succ])
    refine wpAnyH_take (i := 3) (v := ?_) rfl (by kernel_rfl) (by kernel_rfl) (by kernel_rfl) (fun _ _ _ h => h) (Or.inl ⟨by rfl, ?_⟩) hHeld ?_
    rotate_left
    · intro w hSw; (try dsimp only at hSw); go_simp
      all_goals (with_reducible rfl)
    (try simp only [Act.put, List.getElem_toArray, List.getElem_cons_succ, List.getElem_cons_zero, List.setIfInBounds_toArray, List.set_cons_zero, List.set_cons_succ])
    refine wpAnyH_take (i := 6) (v := ?_) rfl (by kernel_rfl) (by kernel_rfl) (by kernel_rfl) (fun _ _ _ h => h) (Or.inl ⟨by rfl, ?_⟩) hHeld ?_
    rotate_left
    · intro w hSw; (try dsimp only at hSw); go_simp
      all_goals (with_reducible rfl)
    (try simp only [Act.put, List.getElem_toArray, List.getElem_cons_succ, List.getElem_cons_zero, List.setIfInBounds_toArray, List.set_cons_zero, List.set_cons_succ])
    refine wpAnyH_take (i := 7) (v := ?_) rfl (by kernel_rfl) (by kernel_rfl) (by kernel_rfl) (fun _ _ _ h => h) (Or.inl ⟨by rfl, ?_⟩) hHeld ?_
    rotate_left
    · intro w hSw; (try dsimp only at hSw); go_simp
      all_goals (with_reducible rfl)
    (try simp only [Act.put, List.getElem_toArray, List.getElem_cons_succ, List.getElem_cons_zero, List.setIfInBounds_toArray, List.set_cons_zero, List.set_cons_succ])
    refine wpAnyH_take (i := 8) (v := ?_) rfl (by kernel_rfl) (by kernel_rfl) (by kernel_rfl) (fun _ _ _ h => h) (Or.inl ⟨by rfl, ?_⟩) hHeld ?_
    rotate_left
    · intro w hSw; (try dsimp only at hSw); go_simp
      all_goals (with_reducible rfl)
    (try simp only [Act.put, List.getElem_toArray, List.getElem_cons_succ, List.getElem_cons_zero, List.setIfInBounds_toArray, List.set_cons_zero, List.set_cons_succ])
    refine wpAnyH_take (i := 9) (v := ?_) rfl (by kernel_rfl) (by kernel_rfl) (by kernel_rfl) (fun _ _ _ h => h) (Or.inl ⟨by rfl, ?_⟩) hHeld ?_
    rotate_left
    · intro w hSw; (try dsimp only at hSw); go_simp
      all_goals (with_reducible rfl)
    (try simp only [Act.put, List.getElem_toArray, List.getElem_cons_succ, List.getElem_cons_zero, List.setIfInBounds_toArray, List.set_cons_zero, List.set_cons_succ])
    refine wpAnyH_take (i := 10) (v := ?_) rfl (by kernel_rfl) (by kernel_rfl) (by kernel_rfl) (fun _ _ _ h => h) (Or.inl ⟨by rfl, ?_⟩) hHeld ?_
    rotate_left
    · intro w hSw; (try dsimp only at hSw); go_simp
      all_goals (with_reducible rfl)
    (try simp only [Act.put, List.getElem_toArray, List.getElem_cons_succ, List.getElem_cons_zero, List.setIfInBounds_toArray, List.set_cons_zero, List.set_cons_succ])
    refine wpAnyH_take (i := 11) (v := ?_) rfl (by kernel_rfl) (by kernel_rfl) (by kernel_rfl) (fun _ _ _ h => h) (Or.inl ⟨by rfl, ?_⟩) hHeld ?_
    rotate_left
    · intro w hSw; (try dsimp only at hSw); go_simp
      all_goals (with_reducible rfl)
    (try simp only [Act.put, List.getElem_toArray, List.getElem_cons_succ, List.getElem_cons_zero, List.setIfInBounds_toArray, List.set_cons_zero, List.set_cons_succ])
    refine wpAnyH_take (i := 12) (v := ?_) rfl (by kernel_rfl) (by kernel_rfl) (by kernel_rfl) (fun _ _ _ h => h) (Or.inl ⟨by rfl, ?_⟩) hHeld ?_
    rotate_left
    · intro w hSw; have q2 := HCX.out _ hSw; go_simp
      all_goals (with_reducible rfl)
    (try simp only [Act.put, List.getElem_toArray, List.getElem_cons_succ, List.getElem_cons_zero, List.setIfInBounds_toArray, List.set_cons_zero, List.set_cons_succ])
    refine wpAnyH_ready (rs := [4]) (by kernel_rfl) (by simp) ?_
    refine (AllReadyH.cons rfl (fun K hK => ?_) (AllReadyH.nil))
    go_simp
    have hbd : Below wc.heap.size wc wc.drew := below_drewN (Below.refl wc.heap.size wc) 1
    have hen := HEnd.out _ hbd
    go_wp2_with (go_at_call 159; refine hen.mono ?_; rintro _ w5 ⟨U, rfl, hU5, hb5⟩)
    obtain ⟨va, vc, rfl, _, _, hur⟩ := hU5.row
    have hb5c : Below wc.heap.size wc w5 := hbd.trans hb5
    refine hK.out _ _ (RowAt.below (fun h => hrX h) hb5c) (fun hHeld => ?_)
    clear hK K
    (try simp only [Act.put, List.getElem_toArray, List.getElem_cons_succ, List.getElem_cons_zero, List.setIfInBounds_toArray, List.set_cons_zero, List.set_cons_succ])
    refine wpAnyH_ready (rs := [5]) (by kernel_rfl) (by simp) ?_
    refine (AllReadyH.cons rfl (fun K hK => ?_) (AllReadyH.nil))
    have q1 := HCE.out w5 va vc hur
    go_simp
    refine hK.out _ _ (RowAt.below (fun h => hrX h) hb5c) (fun hHeld => ?_)
    clear hK K
    (try simp only [Act.put, List.getElem_toArray, List.getElem_cons_succ, List.getElem_cons_zero, List.setIfInBounds_toArray, List.set_cons_zero, List.set_cons_succ])
    refine wpAnyH_take (i := 13) (v := ?_) rfl (by kernel_rfl) (by kernel_rfl) (by kernel_rfl) (fun _ _ _ h => h) (Or.inl ⟨by rfl, ?_⟩) hHeld ?_
    rotate_left
    · intro w hSw; (try dsimp only at hSw); go_simp
      all_goals (with_reducible rfl)
    (try simp only [Act.put, List.getElem_toArray, List.getElem_cons_succ, List.getElem_cons_zero, List.setIfInBounds_toArray, List.set_cons_zero, List.set_cons_succ])
    refine wpAnyH_done (by kernel_rfl) ?_ _
    clear hHeld
    have hb5w : Below w.heap.size w w5 := HBWC.out.trans (hb5c.mono HBWC.out.size)
    have k25 := (hb5c.block _ (heap_lt K2C.out)).trans K2C.out
    have k55 := (hb5c.block _ (heap_lt K5C.out)).trans K5C.out
    have g55 := (hb5c.block _ (heap_lt HG.out)).trans HG.out
    clear r0 r1 rz0 rz1 x0 x1 xz0 xz1
    have r0 := cell_of_heap k25 (i := 0) (v := .int .u8 0) (by rfl)
    have r1 := cell_of_heap k25 (i := 1) (v := .slice none 0 0) (by rfl)
    have rz0 := frozen_of_heap (i := 0) k25
    have rz1 := frozen_of_heap (i := 1) k25
    have x0 := cell_of_heap k55 (i := 0) (v := .int .u8 0) (by rfl)
    have x1 := cell_of_heap k55 (i := 1) (v := .slice none 0 0) (by rfl)
    have xz0 := frozen_of_heap (i := 0) k55
    have xz1 := frozen_of_heap (i := 1) k55
    have p0 := cell_of_heap g55 (i := 0) (v := .int .u8 (kd.toNat : Int)) (by rfl)
    have p1 := cell_of_heap g55 (i := 1) (v := .slice ua N uc) (by rfl)
    have pz0 := frozen_of_heap (i := 0) g55
    have pz1 := frozen_of_heap (i := 1) g55
    have HB5W := Lib.hid hb5w
    have HB5C := Lib.hid hb5c
    have K25 := Lib.hid k25
    have NGE := Lib.hid (show w.heap.size + 2 ≤ w2.heap.size by have := HB2.out.size; have := HBQ.out.size; have := HZ.out; omega)
    clear hb5w hb5c k25 k55 g55 e0 e0' hbd hb5 hU5 hur hen hsA hsB hrX q1 hlX
    have h172 : EL ≠ XL → readE b = 172 := fun h => by rw [HE1.out, if_pos h]
    have h000 : EL = XL → readE b = 0 := fun h => by rw [HE1.out, if_neg (by simpa using h)]
    have H172 := Lib.hid h172
    have H000 := Lib.hid h000
    clear h172 h000
    go_wp2_with fail
    rotate_left
    · have HE := Lib.hid (H000.out (by first | assumption | (simp_all; done)))
      obtain ⟨Y, hY, hyx, hcY⟩ := set2 (x := .int .u8 (kd.toNat : Int)) (y := .slice ua N uc) K25.out
      rw [hY]
      have y0 := cell_of_heap hyx (i := 0) (v := .int .u8 (kd.toNat : Int)) (by rfl)
      have y1 := cell_of_heap hyx (i := 1) (v := .slice ua N uc) (by rfl)
      have hV5 := HVC.out.kept (w' := w5) (R' := fun x => w2.heap.size ≤ x) (Chg.of_below (O := fun _ => False) HB5C.out) (fun _ _ h => h) (fun _ h => h)
      exact bodyPost_ret (v := .tuple #[.agg #[.int .u8 (kd.toNat : Int), .slice ua N uc], .int .i64 ((N : Int) + 9), .int .i64 0]) (by simp [results, Tryz.results140, go_sem, y0, y1]) rfl (.inl ⟨HE.out, _, by rw [HKD.out, HNN.out], by rw [HBLH.out]; exact hV5.kept hcY (fun x hx e => by have := NGE.out; have hx' : w2.heap.size ≤ x := hx; have e' : x = w.heap.size := e; omega) (fun x hx => by have := NGE.out; have hx' : w2.heap.size ≤ x := hx; show w.heap.size ≤ x; omega), Chg.ret HB5W.out (Nat.le_refl _) hcY⟩)
    · have HE := Lib.hid (H172.out (by first | assumption | (simp_all; done)))
      obtain ⟨Y, hY, hyx, hcY⟩ := set2 (x := .int .u8 0) (y := .slice none 0 0) K25.out
      rw [hY]
      have y0 := cell_of_heap hyx (i := 0) (v := .int .u8 0) (by rfl)
      have y1 := cell_of_heap hyx (i := 1) (v := .slice none 0 0) (by rfl)
      exact bodyPost_ret (v := .tuple #[.agg #[.int .u8 0, .slice none 0 0], .int .i64 0, .int .i64 172]) (by simp [results, Tryz.results140, go_sem, y0, y1]) rfl (.inr ⟨by rw [HE.out]; decide, by rw [HE.out]; rfl, Chg.ret HB5W.out (Nat.le_refl _) hcY⟩)

end Go.Proofs.YtlmdpcaikhdenaaGreat
