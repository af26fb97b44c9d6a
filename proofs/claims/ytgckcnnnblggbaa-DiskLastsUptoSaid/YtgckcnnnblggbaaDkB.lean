/- Disk: what a pending write of bytes does to bytes. -/
import Derived.Test.YtgckcnnnblggbaaDkA
namespace Go.Proofs.Ytgckcnnnblggbaa
open Go.RowKit Go.Maps

theorem laid_splice (l y : List UInt8) (q m : Nat) (hm : m = max l.length (q + y.length)) :
    splice (splice (List.replicate m (0 : UInt8)) 0 l) q y = (l ++ List.replicate (q - l.length) 0).take q ++ y ++ l.drop (q + y.length) := by
  apply List.ext_getElem?
  intro i
  unfold splice
  simp only [List.take_zero, List.nil_append, List.getElem?_append, List.getElem?_take, List.getElem?_drop, List.getElem?_replicate, List.length_append, List.length_take, List.length_drop, List.length_replicate, Nat.zero_add]
  have e1 : ∀ j, ¬ j < l.length → l[j]? = none := fun j h => List.getElem?_eq_none (by omega)
  have e2 : ∀ j, ¬ j < y.length → y[j]? = none := fun j h => List.getElem?_eq_none (by omega)
  grind

theorem map_splice {α β : Type} (f : α → β) (L : List α) (o : Nat) (c : List α) : (splice L o c).map f = splice (L.map f) o (c.map f) := by simp [splice]
theorem madeCells_one (m : Nat) : madeCells #[.int .u8 0] m = ((List.replicate m (0 : UInt8)).map bv).toArray := by
  apply Array.ext'
  simp [madeCells, bv, Nat.mod_one]
  rw [List.map_const', List.length_range]

theorem BytesIn.made {w : World} {R : Nat → Prop} {b m : Nat} {L : List UInt8} {t : TypeId} (h : w.heap[b]? = some (.cells (L.map bv).toArray t (0, 0))) (hm : L.length = m) (hR : R b) : BytesIn w R (.slice (some ⟨b, 0, none⟩) m m) L := by
  subst hm
  refine ⟨_, _, rfl, Nat.le_refl _, (by simp), fun _ => ⟨b, 0, rfl, fun j u hu => ?_⟩, fun _ x hx => by cases hx; exact hR, fun x hx => by cases hx; rfl⟩
  rw [Nat.zero_add]
  exact cell_of_heap h (by simpa using hu)
theorem subAt_zero {b m q : Nat} (h : q < m) : subAt (some (⟨b, 0, none⟩ : Addr)) m q = some ⟨b, q, none⟩ := by
  unfold subAt
  rw [if_neg (by omega)]
  by_cases hq : q = 0
  · subst hq; simp [Addr.add]
  · simp [Addr.add, hq]
theorem src_of {w : World} {a : Option Addr} {xs : List Value} (h : RowAt w a xs) (hp : 0 < xs.length) : ∃ ad, a = some ad ∧ ∀ j v, xs[j]? = some v → w.cell? (ad.add j) = some v := by
  obtain ⟨b, off, e, hc⟩ := h (by intro e; rw [e] at hp; simp at hp)
  exact ⟨⟨b, off, none⟩, e, fun j v hv => by
    have := hc j v hv
    by_cases hj : j = 0
    · subst hj; simpa [Addr.add] using this
    · simpa [Addr.add, hj] using this⟩
theorem bvs_one (l : List UInt8) : ∀ v ∈ l.map bv, v.oneCell' = true := by intro u hu; obtain ⟨_, _, rfl⟩ := List.mem_map.1 hu; rfl

set_option maxRecDepth 100000 in
set_option maxHeartbeats 2000000 in
theorem write_lays {w : World} {R : Nat → Prop} {v : Value} {x : Wr} {n : Nat} {vb : Value} {l : List UInt8} (hv : LayIn w R v x) (hx : x.cut = false) (hb : BytesIn w R vb l) (hl : l.length ≤ maxFile) (hp : x.place + x.data.length ≤ maxFile) (hn : n ≤ x.data.length) (hRs : ∀ b, R b → b < w.heap.size) : DoesLay v x n vb l R w := by
  unfold LayIn at hv
  rw [if_neg (by simp [hx])] at hv
  obtain ⟨y, z, u, rfl, ⟨b1, rfl, _, c1⟩, ⟨b2, rfl, _, c2⟩, hu⟩ := hv
  obtain ⟨a, c, rfl, hle, hnil, hrow⟩ := hb.row
  obtain ⟨ua, uc, rfl, hule, hunil, hurow⟩ := hu.row
  have hmf : maxFile = 1099511627776 := rfl
  refine ⟨_, _, rfl, enters_write, ?_⟩
  by_cases hn0 : n = 0
  · subst hn0
    have he : laid l x 0 = l := by unfold laid; simp [hx]
    rw [he]
    go_enter Try.func38, Try.ntmps38
    go_wp2
    go_ret
    exact ⟨_, rfl, hb.mono (fun b h => .inl h), Below.refl _ _⟩
  · have hyl : (x.data.take n).length = n := by simp; omega
    have he : laid l x n = splice (splice (List.replicate (max l.length (x.place + n)) (0 : UInt8)) 0 l) x.place (x.data.take n) := by
      rw [laid_splice _ _ _ _ (by rw [hyl])]
      unfold laid; simp only [hx, Bool.false_eq_true, if_false, if_neg hn0, hyl]
    rw [he]
    have HE := Lib.hid he; clear he
    have hb0 : ((n : Int) == 0) = false := by simp; omega
    generalize x.place = q at *
    generalize x.data = y at *
    clear hx
    have hw : ∀ m : Nat, m = max l.length (q + n) → m ≤ 1099511627776 ∧ l.length ≤ m ∧ q + n ≤ m := by intro m hm; omega
    by_cases hc : l.length < q + n
    · have hmx : max l.length (q + n) = q + n := by omega
      rw [hmx]
      have hmk := run_make_row' (P := Try.prog) 28 5 (.int .u8 0) 1 Try.underlying28 Try.info5 rfl .i64 .i64 (q + n) (by omega) (by omega)
      rw [madeCells_one] at hmk
      have hpq : ((q + n : Nat) : Int) = (q : Int) + (n : Int) := by omega
      rw [hpq] at hmk
      have HP := Lib.hid hpq; clear hpq hmx
      go_enter Try.func38, Try.ntmps38
      have hsl1 := run_slice_lo (P := Try.prog) 28 5 Try.underlying28 Try.sizeOf5 (some (⟨w.heap.size, 0, none⟩ : Addr)) (q + n) (q + n) q (by omega)
      have hsl2 := run_slice_hi (P := Try.prog) 28 5 Try.underlying28 Try.sizeOf5 ua y.length uc n (by omega)
      have hln := Lib.hid (show l.length = Nat.min l.length (q + n) by simp [Nat.min_def]; omega)
      have hbz := below_alloc w (Obj.cells (Array.replicate (q + n) (bv 0)) 5)
      have HS1 := Lib.hid (src_of (hrow.below hbz))
      have HH := Lib.hid (show (w.alloc (Obj.cells (Array.replicate (q + n) (bv 0)) 5)).heap[w.heap.size]? = some (.cells ((List.replicate (q + n) (0 : UInt8)).map bv).toArray 5 (0, 0)) by rw [World.alloc_heap_new]; simp)
      go_wp2_with (with_reducible (show wpList _ _ _ (_ :: _) _ _); refine wpList_copy_splice rfl (.tmp 18) (.tmp 19) 28 28 rfl 5 Try.underlying28 (by kernel_rfl) _ _ _ _ _ _ rfl rfl w.heap.size 0 ((List.replicate (q + n) (0 : UInt8)).map bv) 5 HH.out (l.map bv) (by rw [List.length_map]; exact hln.out) (fun hpos => ⟨rfl, HS1.out hpos⟩) (by simp; omega) (bvs_one l) w.heap.size w hbz (Nat.le_refl _) ?_)
      intro w1 h1 hb1
      have c1' := (hb1.cell (p := ⟨b1, 0, none⟩) (cell_lt c1)).trans c1
      have c2' := (hb1.cell (p := ⟨b2, 0, none⟩) (cell_lt c2)).trans c2
      have hbw := hb1.drew
      go_wp2
      go_still_tail 6, (by kernel_rfl)
      change wpList _ _ _ _ _ w1.drew
      have hsub : subAt (some (⟨w.heap.size, 0, none⟩ : Addr)) (q + n) q = some ⟨w.heap.size, q, none⟩ := subAt_zero (by omega)
      rw [hsub]
      have h1d : w1.drew.heap[w.heap.size]? = some (.cells (splice ((List.replicate (q + n) (0 : UInt8)).map bv) 0 (l.map bv)).toArray 5 (0, 0)) := by
        have := h1.out
        rw [← List.map_replicate] at this
        exact this
      have hyy : ((y.take n).map bv).length = n := by simp; omega
      have hs2 := src_of ((hurow.take n).below hbw)
      rw [← List.map_take] at hs2
      refine wpList_copy_splice rfl (.tmp 23) (.tmp 26) 28 28 rfl 5 Try.underlying28 (by kernel_rfl) _ _ _ _ _ _ rfl rfl w.heap.size q (splice ((List.replicate (q + n) (0 : UInt8)).map bv) 0 (l.map bv)) 5 h1d ((y.take n).map bv) (by rw [hyy]; simp) (fun hpos => ⟨rfl, hs2 hpos⟩) (by rw [hyy, length_splice] <;> simp; omega) (bvs_one _) w.heap.size w hbw (Nat.le_refl _) ?_
      intro w2 h2 hb2
      go_wp2
      go_ret
      have h2 := h2.out
      rw [← map_splice, ← map_splice] at h2
      refine ⟨_, rfl, BytesIn.made h2 (by rw [length_splice] <;> rw [length_splice] <;> simp <;> omega) (.inr ⟨Nat.le_refl _, heap_lt h2⟩), hb2⟩
    · have hmx : max l.length (q + n) = l.length := by omega
      rw [hmx]
      have hmk := run_make_row' (P := Try.prog) 28 5 (.int .u8 0) 1 Try.underlying28 Try.info5 rfl .i64 .i64 l.length (by omega) (by omega)
      rw [madeCells_one] at hmk
      clear hmx
      go_enter Try.func38, Try.ntmps38
      have hsl1 := run_slice_lo (P := Try.prog) 28 5 Try.underlying28 Try.sizeOf5 (some (⟨w.heap.size, 0, none⟩ : Addr)) l.length l.length q (by omega)
      have hsl2 := run_slice_hi (P := Try.prog) 28 5 Try.underlying28 Try.sizeOf5 ua y.length uc n (by omega)
      have hln := Lib.hid (show l.length = Nat.min l.length l.length by simp [Nat.min_def])
      have hbz := below_alloc w (Obj.cells (Array.replicate l.length (bv 0)) 5)
      have HS1 := Lib.hid (src_of (hrow.below hbz))
      have HH := Lib.hid (show (w.alloc (Obj.cells (Array.replicate l.length (bv 0)) 5)).heap[w.heap.size]? = some (.cells ((List.replicate l.length (0 : UInt8)).map bv).toArray 5 (0, 0)) by rw [World.alloc_heap_new]; simp)
      go_wp2_with (with_reducible (show wpList _ _ _ (_ :: _) _ _); refine wpList_copy_splice rfl (.tmp 18) (.tmp 19) 28 28 rfl 5 Try.underlying28 (by kernel_rfl) _ _ _ _ _ _ rfl rfl w.heap.size 0 ((List.replicate l.length (0 : UInt8)).map bv) 5 HH.out (l.map bv) (by rw [List.length_map]; exact hln.out) (fun hpos => ⟨rfl, HS1.out hpos⟩) (by simp) (bvs_one l) w.heap.size w hbz (Nat.le_refl _) ?_)
      intro w1 h1 hb1
      have c1' := (hb1.cell (p := ⟨b1, 0, none⟩) (cell_lt c1)).trans c1
      have c2' := (hb1.cell (p := ⟨b2, 0, none⟩) (cell_lt c2)).trans c2
      have hbw := hb1.drew
      go_wp2
      go_still_tail 6, (by kernel_rfl)
      change wpList _ _ _ _ _ w1.drew
      have hsub : subAt (some (⟨w.heap.size, 0, none⟩ : Addr)) l.length q = some ⟨w.heap.size, q, none⟩ := subAt_zero (by omega)
      rw [hsub]
      have h1d : w1.drew.heap[w.heap.size]? = some (.cells (splice ((List.replicate l.length (0 : UInt8)).map bv) 0 (l.map bv)).toArray 5 (0, 0)) := by
        have := h1.out
        rw [← List.map_replicate] at this
        exact this
      have hyy : ((y.take n).map bv).length = n := by simp; omega
      have hs2 := src_of ((hurow.take n).below hbw)
      rw [← List.map_take] at hs2
      refine wpList_copy_splice rfl (.tmp 23) (.tmp 26) 28 28 rfl 5 Try.underlying28 (by kernel_rfl) _ _ _ _ _ _ rfl rfl w.heap.size q (splice ((List.replicate l.length (0 : UInt8)).map bv) 0 (l.map bv)) 5 h1d ((y.take n).map bv) (by rw [hyy]; simp [Nat.min_def]; omega) (fun hpos => ⟨rfl, hs2 hpos⟩) (by rw [hyy, length_splice] <;> simp; omega) (bvs_one _) w.heap.size w hbw (Nat.le_refl _) ?_
      intro w2 h2 hb2
      go_wp2
      go_ret
      have h2 := h2.out
      rw [← map_splice, ← map_splice] at h2
      refine ⟨_, rfl, BytesIn.made h2 (by rw [length_splice] <;> rw [length_splice] <;> simp <;> omega) (.inr ⟨Nat.le_refl _, heap_lt h2⟩), hb2⟩

end Go.Proofs.Ytgckcnnnblggbaa
