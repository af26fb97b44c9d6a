/- Texts of this claim, one behind the other: SgQ, DkA, DkB, DkC, DkD. -/
import Derived.Test.YtlmdpcaikhdenaaGreatSl09
import Derived.Test.YtlmdpcaikhdenaaGreatSl04
import Derived.Deep.RegionLaw
import Derived.Deep.AppendLies
import Derived.BigRegion
import Derived.BigQuiet
import Derived.StillTailTactics
set_option linter.unusedSimpArgs false
set_option linter.unusedVariables false
/- The references' sum of bytes, numbers, entries. -/
namespace Go.Proofs.YtlmdpcaikhdenaaGreat
open Go.RowKit Go.Maps


end Go.Proofs.YtlmdpcaikhdenaaGreat
/- Disk: what a pending write does to bytes. -/
namespace Go.Proofs.YtlmdpcaikhdenaaGreat
open Go.RowKit Go.Maps

/-- WHAT A WRITE's CLOSURE DOES TO BYTES -/
def DoesLay (v : Value) (x : Wr) (n : Nat) (vb : Value) (l : List UInt8) (R : Nat → Prop) (w : World) : Prop :=
  ∃ N caps, v = .func (.func N) #[] caps ∧ enters N ∧ Calls Tryz.prog N (#[vb, .int .i64 (n : Int)] ++ caps) w fun e w' => ∃ u, e = .returned u ∧ BytesIn w' (fun b => R b ∨ NewIn w w' b) u (laid l x n) ∧ Below w.heap.size w w'
theorem enters_cut : enters 232 := fun args w => by go_simp
theorem enters_write : enters 243 := fun args w => by go_simp
theorem BytesIn.mono {w : World} {R R' : Nat → Prop} {v : Value} {l : List UInt8} (h : BytesIn w R v l) (hR : ∀ b, R b → R' b) : BytesIn w R' v l := h.kept (Chg.refl (fun _ => False) w) (fun _ _ h => h) hR

set_option maxRecDepth 100000 in
set_option maxHeartbeats 1000000 in
theorem cut_lays {w : World} {R : Nat → Prop} {v : Value} {x : Wr} {n : Nat} {vb : Value} {l : List UInt8} (hv : LayIn w R v x) (hx : x.cut = true) (hb : BytesIn w R vb l) (hl : l.length ≤ 2199023255552) (hp : x.place ≤ 2199023255552) : DoesLay v x n vb l R w := by
  unfold LayIn at hv
  rw [if_pos hx] at hv
  obtain ⟨y, rfl, ⟨b1, rfl, _, c1⟩⟩ := hv
  obtain ⟨a, c, rfl, hle, hnil, hrow⟩ := hb.row
  refine ⟨_, _, rfl, enters_cut, ?_⟩
  have he : laid l x n = l.take x.place := by unfold laid; rw [if_pos hx]
  rw [he]
  generalize x.place = q at *
  clear hx
  by_cases hq : q ≤ l.length
  · have hsl := run_slice_hi (P := Tryz.prog) 26 5 Tryz.underlying26 Tryz.sizeOf5 a l.length c q (by omega)
    have hC := clone_any a c (l.take q)
    rw [show (l.take q).length = q from by simp; omega] at hC
    have hr2 := hrow.take q
    rw [← List.map_take] at hr2
    have HC := Lib.hid hC; clear hC
    go_enter Tryz.func232, Tryz.ntmps232
    go_wp2_with (go_at_call 70; refine (HC.out _ hnil hr2 (by omega)).mono ?_; rintro e1 w1 ⟨u, rfl, hu, hbel⟩)
    all_goals
      first
      | (exfalso; omega)
      | (go_ret
         exact ⟨_, rfl, hu.mono (fun b h => .inr h), hbel⟩)
  · have ht : l.take q = l := List.take_of_length_le (by omega)
    rw [ht]
    have hsl := run_slice_hi (P := Tryz.prog) 26 5 Tryz.underlying26 Tryz.sizeOf5 a l.length c l.length (by omega)
    have HC := Lib.hid (clone_any a c l)
    go_enter Tryz.func232, Tryz.ntmps232
    go_wp2_with (go_at_call 70; refine (HC.out _ hnil hrow (by omega)).mono ?_; rintro e1 w1 ⟨u, rfl, hu, hbel⟩)
    all_goals
      first
      | (exfalso; omega)
      | (go_ret
         exact ⟨_, rfl, hu.mono (fun b h => .inr h), hbel⟩)

end Go.Proofs.YtlmdpcaikhdenaaGreat
/- Disk: what a pending write of bytes does to bytes. -/
namespace Go.Proofs.YtlmdpcaikhdenaaGreat
open Go.RowKit Go.Maps

theorem laid_splice (l y : List UInt8) (q m : Nat) (hm : m = max l.length (q + y.length)) :
    splice (splice (List.replicate m (0 : UInt8)) 0 l) q y = (l ++ List.replicate (q - l.length) 0).take q ++ y ++ l.drop (q + y.length) := by
  apply List.ext_getElem?
  intro i
  unfold splice
  simp only [List.take_zero, List.nil_append, List.getElem?_append, List.getElem?_take, List.getElem?_drop, List.getElem?_replicate, List.length_append, List.length_take, List.length_drop, List.length_replicate, Nat.zero_add]
  have e1 : ∀ j, ¬ j < l.length → l[j]? = none := fun j h => List.getElem?_eq_none (by omega)
  have e2 : ∀ j, ¬ j < y.length → y[j]? = none := fun j h => List.getElem?_eq_none (by omega)
  grind

theorem map_splice {α β : Type} (f : α → β) (L : List α) (o : Nat) (c : List α) : (splice L o c).map f = splice (L.map f) o (c.map f) := by simp [splice]
theorem madeCells_one (m : Nat) : madeCells #[.int .u8 0] m = ((List.replicate m (0 : UInt8)).map bv).toArray := by
  apply Array.ext'
  simp [madeCells, bv, Nat.mod_one]
  rw [List.map_const', List.length_range]

theorem BytesIn.made {w : World} {R : Nat → Prop} {b m : Nat} {L : List UInt8} (h : w.heap[b]? = some (.cells (L.map bv).toArray 5 (0, 0))) (hm : L.length = m) (hmx : m ≤ maxLen) (hR : R b) : BytesIn w R (.slice (some ⟨b, 0, none⟩) m m) L := by
  subst hm
  refine ⟨_, _, rfl, Nat.le_refl _, (by simp), fun _ => ⟨b, 0, rfl, fun j u hu => ?_⟩, (fun x hx => by cases hx; exact hR), (fun x hx => by cases hx; rfl), (by simp), .inr ⟨b, L.length, (L.map bv).toArray, rfl, Nat.zero_le _, h, Nat.le_refl _, hmx, by simp, by rw [Nat.mul_one]; simp [List.take_of_length_le]⟩⟩
  rw [Nat.zero_add]
  exact cell_of_heap h (by simpa using hu)
theorem subAt_zero {b m q : Nat} (h : q < m) : subAt (some (⟨b, 0, none⟩ : Addr)) m q = some ⟨b, q, none⟩ := by
  unfold subAt
  rw [if_neg (by omega)]
  by_cases hq : q = 0
  · subst hq; simp [Addr.add]
  · simp [Addr.add, hq]
theorem src_of {w : World} {a : Option Addr} {xs : List Value} (h : RowAt w a xs) (hp : 0 < xs.length) : ∃ ad, a = some ad ∧ ∀ j v, xs[j]? = some v → w.cell? (ad.add j) = some v := by
  obtain ⟨b, off, e, hc⟩ := h (by intro e; rw [e] at hp; simp at hp)
  exact ⟨⟨b, off, none⟩, e, fun j v hv => by
    have := hc j v hv
    by_cases hj : j = 0
    · subst hj; simpa [Addr.add] using this
    · simpa [Addr.add, hj] using this⟩
theorem bvs_one (l : List UInt8) : ∀ v ∈ l.map bv, v.oneCell' = true := by intro u hu; obtain ⟨_, _, rfl⟩ := List.mem_map.1 hu; rfl

set_option maxRecDepth 100000 in
set_option maxHeartbeats 2000000 in
theorem write_lays {w : World} {R : Nat → Prop} {v : Value} {x : Wr} {n : Nat} {vb : Value} {l : List UInt8} (hv : LayIn w R v x) (hx : x.cut = false) (hb : BytesIn w R vb l) (hl : l.length ≤ maxFile) (hp : x.place + x.data.length ≤ maxFile) (hn : n ≤ x.data.length) (hRs : ∀ b, R b → b < w.heap.size) : DoesLay v x n vb l R w := by
  unfold LayIn at hv
  rw [if_neg (by simp [hx])] at hv
  obtain ⟨y, z, u, rfl, ⟨b1, rfl, _, c1⟩, ⟨b2, rfl, _, c2⟩, hu⟩ := hv
  obtain ⟨a, c, rfl, hle, hnil, hrow⟩ := hb.row
  obtain ⟨ua, uc, rfl, hule, hunil, hurow⟩ := hu.row
  have hmf : maxFile = 1099511627776 := rfl
  refine ⟨_, _, rfl, enters_write, ?_⟩
  by_cases hn0 : n = 0
  · subst hn0
    have he : laid l x 0 = l := by unfold laid; simp [hx]
    rw [he]
    go_enter Tryz.func243, Tryz.ntmps243
    go_wp2
    go_ret
    exact ⟨_, rfl, hb.mono (fun b h => .inl h), Below.refl _ _⟩
  · have hyl : (x.data.take n).length = n := by simp; omega
    have he : laid l x n = splice (splice (List.replicate (max l.length (x.place + n)) (0 : UInt8)) 0 l) x.place (x.data.take n) := by
      rw [laid_splice _ _ _ _ (by rw [hyl])]
      unfold laid; simp only [hx, Bool.false_eq_true, if_false, if_neg hn0, hyl]
    rw [he]
    have HE := Lib.hid he; clear he
    have hb0 : ((n : Int) == 0) = false := by simp; omega
    generalize x.place = q at *
    generalize x.data = y at *
    clear hx
    have hw : ∀ m : Nat, m = max l.length (q + n) → m ≤ 1099511627776 ∧ l.length ≤ m ∧ q + n ≤ m := by intro m hm; omega
    by_cases hc : l.length < q + n
    · have hmx : max l.length (q + n) = q + n := by omega
      rw [hmx]
      have hmk := run_make_row' (P := Tryz.prog) 26 5 (.int .u8 0) 1 Tryz.underlying26 Tryz.info5 rfl .i64 .i64 (q + n) (by omega) (by omega)
      rw [madeCells_one] at hmk
      have hpq : ((q + n : Nat) : Int) = (q : Int) + (n : Int) := by omega
      rw [hpq] at hmk
      have HP := Lib.hid hpq; clear hpq hmx
      go_enter Tryz.func243, Tryz.ntmps243
      have hsl1 := run_slice_lo (P := Tryz.prog) 26 5 Tryz.underlying26 Tryz.sizeOf5 (some (⟨w.heap.size, 0, none⟩ : Addr)) (q + n) (q + n) q (by omega)
      have hsl2 := run_slice_hi (P := Tryz.prog) 26 5 Tryz.underlying26 Tryz.sizeOf5 ua y.length uc n (by omega)
      have hln := Lib.hid (show l.length = Nat.min l.length (q + n) by simp [Nat.min_def]; omega)
      have hbz := below_alloc w (Obj.cells (Array.replicate (q + n) (bv 0)) 5)
      have HS1 := Lib.hid (src_of (hrow.below hbz))
      have HH := Lib.hid (show (w.alloc (Obj.cells (Array.replicate (q + n) (bv 0)) 5)).heap[w.heap.size]? = some (.cells ((List.replicate (q + n) (0 : UInt8)).map bv).toArray 5 (0, 0)) by rw [World.alloc_heap_new]; simp)
      go_wp2_with (with_reducible (show wpList _ _ _ (_ :: _) _ _); refine wpList_copy_splice rfl (.tmp 18) (.tmp 19) 26 26 rfl 5 Tryz.underlying26 (by kernel_rfl) _ _ _ _ _ _ rfl rfl w.heap.size 0 ((List.replicate (q + n) (0 : UInt8)).map bv) 5 HH.out (l.map bv) (by rw [List.length_map]; exact hln.out) (fun hpos => ⟨rfl, HS1.out hpos⟩) (by simp; omega) (bvs_one l) w.heap.size w hbz (Nat.le_refl _) ?_)
      intro w1 h1 hb1
      have c1' := (hb1.cell (p := ⟨b1, 0, none⟩) (cell_lt c1)).trans c1
      have c2' := (hb1.cell (p := ⟨b2, 0, none⟩) (cell_lt c2)).trans c2
      have hbw := hb1.drew
      go_wp2
      go_still_tail 6, (by kernel_rfl)
      change wpList _ _ _ _ _ w1.drew
      have hsub : subAt (some (⟨w.heap.size, 0, none⟩ : Addr)) (q + n) q = some ⟨w.heap.size, q, none⟩ := subAt_zero (by omega)
      rw [hsub]
      have h1d : w1.drew.heap[w.heap.size]? = some (.cells (splice ((List.replicate (q + n) (0 : UInt8)).map bv) 0 (l.map bv)).toArray 5 (0, 0)) := by
        have := h1.out
        rw [← List.map_replicate] at this
        exact this
      have hyy : ((y.take n).map bv).length = n := by simp; omega
      have hs2 := src_of ((hurow.take n).below hbw)
      rw [← List.map_take] at hs2
      refine wpList_copy_splice rfl (.tmp 23) (.tmp 26) 26 26 rfl 5 Tryz.underlying26 (by kernel_rfl) _ _ _ _ _ _ rfl rfl w.heap.size q (splice ((List.replicate (q + n) (0 : UInt8)).map bv) 0 (l.map bv)) 5 h1d ((y.take n).map bv) (by rw [hyy]; simp) (fun hpos => ⟨rfl, hs2 hpos⟩) (by rw [hyy, length_splice] <;> simp; omega) (bvs_one _) w.heap.size w hbw (Nat.le_refl _) ?_
      intro w2 h2 hb2
      go_wp2
      go_ret
      have h2 := h2.out
      rw [← map_splice, ← map_splice] at h2
      refine ⟨_, rfl, BytesIn.made h2 (by rw [length_splice] <;> rw [length_splice] <;> simp <;> omega) (by show _ ≤ 9223372036854775807; omega) (.inr ⟨Nat.le_refl _, heap_lt h2⟩), hb2⟩
    · have hmx : max l.length (q + n) = l.length := by omega
      rw [hmx]
      have hmk := run_make_row' (P := Tryz.prog) 26 5 (.int .u8 0) 1 Tryz.underlying26 Tryz.info5 rfl .i64 .i64 l.length (by omega) (by omega)
      rw [madeCells_one] at hmk
      clear hmx
      go_enter Tryz.func243, Tryz.ntmps243
      have hsl1 := run_slice_lo (P := Tryz.prog) 26 5 Tryz.underlying26 Tryz.sizeOf5 (some (⟨w.heap.size, 0, none⟩ : Addr)) l.length l.length q (by omega)
      have hsl2 := run_slice_hi (P := Tryz.prog) 26 5 Tryz.underlying26 Tryz.sizeOf5 ua y.length uc n (by omega)
      have hln := Lib.hid (show l.length = Nat.min l.length l.length by simp [Nat.min_def])
      have hbz := below_alloc w (Obj.cells (Array.replicate l.length (bv 0)) 5)
      have HS1 := Lib.hid (src_of (hrow.below hbz))
      have HH := Lib.hid (show (w.alloc (Obj.cells (Array.replicate l.length (bv 0)) 5)).heap[w.heap.size]? = some (.cells ((List.replicate l.length (0 : UInt8)).map bv).toArray 5 (0, 0)) by rw [World.alloc_heap_new]; simp)
      go_wp2_with (with_reducible (show wpList _ _ _ (_ :: _) _ _); refine wpList_copy_splice rfl (.tmp 18) (.tmp 19) 26 26 rfl 5 Tryz.underlying26 (by kernel_rfl) _ _ _ _ _ _ rfl rfl w.heap.size 0 ((List.replicate l.length (0 : UInt8)).map bv) 5 HH.out (l.map bv) (by rw [List.length_map]; exact hln.out) (fun hpos => ⟨rfl, HS1.out hpos⟩) (by simp) (bvs_one l) w.heap.size w hbz (Nat.le_refl _) ?_)
      intro w1 h1 hb1
      have c1' := (hb1.cell (p := ⟨b1, 0, none⟩) (cell_lt c1)).trans c1
      have c2' := (hb1.cell (p := ⟨b2, 0, none⟩) (cell_lt c2)).trans c2
      have hbw := hb1.drew
      go_wp2
      go_still_tail 6, (by kernel_rfl)
      change wpList _ _ _ _ _ w1.drew
      have hsub : subAt (some (⟨w.heap.size, 0, none⟩ : Addr)) l.length q = some ⟨w.heap.size, q, none⟩ := subAt_zero (by omega)
      rw [hsub]
      have h1d : w1.drew.heap[w.heap.size]? = some (.cells (splice ((List.replicate l.length (0 : UInt8)).map bv) 0 (l.map bv)).toArray 5 (0, 0)) := by
        have := h1.out
        rw [← List.map_replicate] at this
        exact this
      have hyy : ((y.take n).map bv).length = n := by simp; omega
      have hs2 := src_of ((hurow.take n).below hbw)
      rw [← List.map_take] at hs2
      refine wpList_copy_splice rfl (.tmp 23) (.tmp 26) 26 26 rfl 5 Tryz.underlying26 (by kernel_rfl) _ _ _ _ _ _ rfl rfl w.heap.size q (splice ((List.replicate l.length (0 : UInt8)).map bv) 0 (l.map bv)) 5 h1d ((y.take n).map bv) (by rw [hyy]; simp [Nat.min_def]; omega) (fun hpos => ⟨rfl, hs2 hpos⟩) (by rw [hyy, length_splice] <;> simp; omega) (bvs_one _) w.heap.size w hbw (Nat.le_refl _) ?_
      intro w2 h2 hb2
      go_wp2
      go_ret
      have h2 := h2.out
      rw [← map_splice, ← map_splice] at h2
      refine ⟨_, rfl, BytesIn.made h2 (by rw [length_splice] <;> rw [length_splice] <;> simp <;> omega) (by show _ ≤ 9223372036854775807; omega) (.inr ⟨Nat.le_refl _, heap_lt h2⟩), hb2⟩

end Go.Proofs.YtlmdpcaikhdenaaGreat
/- Disk: a file's bytes turn; a write more is pending: the disk in memory, no walk. -/
namespace Go.Proofs.YtlmdpcaikhdenaaGreat
open Go.RowKit Go.Maps

/-- what a pending write does to bytes -/
theorem wr_lays {w : World} {R : Nat → Prop} {v : Value} {x : Wr} {n : Nat} {vb : Value} {l : List UInt8} (hv : LayIn w R v x) (hb : BytesIn w R vb l) (hl : l.length ≤ maxFile) (hp : x.place + x.data.length ≤ maxFile) (hn : n ≤ x.data.length) (hRs : ∀ b, R b → b < w.heap.size) : DoesLay v x n vb l R w := by
  have hmf : maxFile = 1099511627776 := rfl
  cases hx : x.cut with
  | true => exact cut_lays hv hx hb (by omega) (by omega)
  | false => exact write_lays hv hx hb hl hp hn hRs

def DSt.addWr (s : DSt) (x : Wr) : DSt := { s with writes := s.writes ++ [x] }
def DSt.written (s : DSt) (x : Wr) : DSt := (s.setData x.file (laid (s.stands x.file) x x.data.length)).addWr x

theorem nodup_inj {l : List Nat} (h : l.Nodup) {i j : Nat} (hi : i < l.length) (hj : j < l.length) (e : l[i] = l[j]) : i = j := by
  rcases Nat.lt_trichotomy i j with h1 | h1 | h1
  · exact absurd e (List.pairwise_iff_getElem.1 h i j hi hj h1)
  · exact h1
  · exact absurd e.symm (List.pairwise_iff_getElem.1 h j i hj hi h1)
section
variable {w : World} {p : Nat} {s : DSt} {R : Nat → Prop} {mf mn ms : Nat} {fb : List Nat} {vs vw : Value} {ss : List Value} {ws : List (List Value)} {e : TypeId}
/-- a file in memory, by its number -/
theorem DiskP.file_at (h : DiskP w p s R mf mn ms fb vs vw ss ws e) {n : Nat} (hn : n < s.files.length) (h63 : n < 9223372036854775808) : ∃ b e' vd vs', fb[n]? = some b ∧ w.heap[b]? = some (.cells #[vd, vs'] e' (0, 0)) ∧ BytesIn w R vd (s.stands n) ∧ BytesIn w R vs' (s.lasts n) ∧
    ∀ q : Nat, (Instr.lookup 107 (.map (some mf)) (.int .i64 (n : Int)) false).run Tryz.prog (w.drewN q) = .ok (.pointer (some ⟨b, 0, none⟩)) (w.drewN q) := by
  have hc := h.count
  have hb : n < fb.length := by omega
  obtain ⟨e', vd, vs', h1, h2, h3⟩ := h.file n fb[n] s.files[n] (by simp [hb]) (by simp [hn])
  refine ⟨fb[n], e', vd, vs', by simp [hb], h1, ?_, ?_, fun q => look_file (h.drewN q).filesM hb h63⟩
  · rw [stands_of (d := s.files[n]) (by simp [hn])]; exact h2
  · rw [lasts_of (d := s.files[n]) (by simp [hn])]; exact h3
theorem DiskP.ne_fb (h : DiskP w p s R mf mn ms fb vs vw ss ws e) {b : Nat} (hb : b ∈ fb) : b ≠ mf ∧ b ≠ mn ∧ b ≠ p ∧ vs.ownBlock ≠ some b ∧ vw.ownBlock ≠ some b ∧ fb.Nodup := by
  have ha := h.apart
  simp only [ownL, List.nodup_cons, List.mem_cons, List.mem_append, Option.mem_toList, List.nodup_append] at ha
  grind
theorem DiskP.ne_vw (h : DiskP w p s R mf mn ms fb vs vw ss ws e) {k : Nat} (hk : vw.ownBlock = some k) : k ≠ mf ∧ k ≠ p ∧ k ≠ mn ∧ vs.ownBlock ≠ some k ∧ k ∉ fb := by
  have ha := h.apart
  simp only [ownL, List.nodup_cons, List.mem_cons, List.mem_append, Option.mem_toList, hk, Option.toList_some, List.nodup_append, List.mem_singleton] at ha
  grind

/-- a file's bytes stand otherwise, or last otherwise -/
theorem DiskP.setFile (h : DiskP w p s R mf mn ms fb vs vw ss ws e) {n b : Nat} (hb : fb[n]? = some b) {w' : World} (hc : Chg (· = b) w w') {d d' : List UInt8} (hf : FileIn w' R b (d, d')) :
    DiskP w' p { s with files := s.files.set n (d, d') } R mf mn ms fb vs vw ss ws e := by
  have hm := List.mem_of_getElem? hb
  obtain ⟨n1, n2, n3, n4, n5, n6⟩ := h.ne_fb hm
  have hRO : ∀ x, R x → ¬ x = b := fun x hx => h.notR (mem_own_fb hm) x hx
  exact {
    cells := hc.obj h.cells (Ne.symm n3)
    filesM := hc.map h.filesM (Ne.symm n1)
    namesM := hc.map h.namesM (Ne.symm n2)
    sureM := hc.map h.sureM (hRO _ h.sureR)
    count := by simp [h.count]
    file := fun i b' d0 hb' hd => by
      by_cases hi : i = n
      · subst hi
        rw [hb] at hb'
        cases hb'
        rw [List.getElem?_set] at hd
        simp only [if_true] at hd
        split at hd
        · cases hd; exact hf
        · cases hd
      · rw [List.getElem?_set_ne (Ne.symm hi)] at hd
        refine (h.file i b' d0 hb' hd).kept hc hRO (fun _ h => h) (fun e => hi ?_)
        subst e
        obtain ⟨h1, h1'⟩ := List.getElem?_eq_some_iff.1 hb
        obtain ⟨h2, h2'⟩ := List.getElem?_eq_some_iff.1 hb'
        exact nodup_inj n6 h2 h1 (h2'.trans h1'.symm)
    stepsR := hc.row h.stepsR (fun k hk e => n4 (e ▸ hk))
    step := fun i v x hv hx => (h.step i v x hv hx).kept hc hRO (fun _ h => h)
    writesR := hc.row h.writesR (fun k hk e => n5 (e ▸ hk))
    count4 := h.count4
    write := fun i v x hv hx => (h.write i v x hv hx).kept hc hRO (fun _ h => h)
    apart := h.apart
    own := fun x hx => ⟨Nat.lt_of_lt_of_le (h.own x hx).1 hc.size, (h.own x hx).2⟩
    shared := fun x hx => Nat.lt_of_lt_of_le (h.shared x hx) hc.size
    sureR := h.sureR }

theorem apart_vw {p mf mn : Nat} {vs vw vw' : Value} {fb : List Nat} (h : (ownL p mf mn vs vw fb).Nodup) (hv : vw'.ownBlock = vw.ownBlock ∨ vw'.ownBlock = none ∨ ∃ g, vw'.ownBlock = some g ∧ ∀ b ∈ ownL p mf mn vs vw fb, b ≠ g) : (ownL p mf mn vs vw' fb).Nodup := by
  rcases hv with hv | hv | ⟨g, hv, hg⟩
  · unfold ownL at h ⊢; rw [hv]; exact h
  · unfold ownL at h ⊢
    rw [hv]
    simp only [List.nodup_cons, List.mem_cons, List.mem_append, Option.mem_toList, Option.toList_none, List.nodup_append, List.not_mem_nil, List.nodup_nil] at h ⊢
    grind
  · unfold ownL at h hg ⊢
    rw [hv]
    simp only [List.nodup_cons, List.mem_cons, List.mem_append, Option.mem_toList, Option.toList_some, List.nodup_append, List.mem_singleton] at h hg ⊢
    grind
theorem mem_own_newW {p mf mn : Nat} {vs vw vw' : Value} {fb : List Nat} {b : Nat} (h : b ∈ ownL p mf mn vs vw' fb) : vw'.ownBlock = some b ∨ b ∈ ownL p mf mn vs vw fb := by
  simp only [ownL, List.mem_cons, List.mem_append, Option.mem_toList] at h ⊢
  grind

/-- the pending writes are others: the disk's slice of them is set -/
theorem DiskP.setWrites (h : DiskP w p s R mf mn ms fb vs vw ss ws e) {w' : World} {vw' : Value} {W : List Wr} {ws' : List (List Value)} (hc : Chg (fun k => vw.ownBlock = some k) w w') (hrow : w'.ownsRow 0 125 4 vw' W.length ws'.flatten)
    (hat : vw'.ownBlock = vw.ownBlock ∨ vw'.ownBlock = none ∨ ∃ g, vw'.ownBlock = some g ∧ w.heap.size ≤ g) (h4 : ws'.length = W.length) (hw : ∀ (i : Nat) c x, ws'[i]? = some c → W[i]? = some x → WrIn w R c x) :
    Turns w (w'.setCell ⟨p, 5, none⟩ vw') p { s with writes := W } (ownL p mf mn vs vw fb) R := by
  obtain ⟨n1, n2, n3, n4, n5⟩ := h.ne_p
  obtain ⟨m1, m2, m3, m4, m5⟩ := h.ne_mn
  have hcell2 := hc.obj h.cells (fun e => n4 _ e rfl)
  have hc3 : Chg (· = p) w' (w'.setCell ⟨p, 5, none⟩ vw') := Chg.set _ rfl
  have hcell3 := heap_set_cells (i := 5) vw' hcell2
  have hplt := heap_lt h.cells
  have hrow3 := hc3.row hrow (fun k hk => by
    rcases hat with e | e | ⟨g, e, hg⟩
    · rw [e] at hk; exact n4 k hk
    · rw [e] at hk; cases hk
    · rw [e] at hk; cases hk; omega)
  have hcc : Chg (fun b => vw.ownBlock = some b ∨ b = p) w (w'.setCell ⟨p, 5, none⟩ vw') := Chg.trans (hc.mono (O' := fun b => vw.ownBlock = some b ∨ b = p) (fun x hx _ => .inl hx)) hc3 (fun x hx _ => .inr hx)
  clear hc3
  generalize w'.setCell ⟨p, 5, none⟩ vw' = w3 at *
  have hs3 := hcc.size
  have hRO : ∀ b, R b → ¬ (vw.ownBlock = some b ∨ b = p) := fun b hb ho => by
    rcases ho with ho | rfl
    · exact (h.own _ (mem_own_vw ho)).2 hb
    · exact (h.own _ mem_own_p).2 hb
  have hOwn : ∀ b ∈ ownL p mf mn vs vw' fb, b ∈ ownL p mf mn vs vw fb ∨ w.heap.size ≤ b := by
    intro b hb
    rcases mem_own_newW (vw := vw) hb with h1 | h1
    · rcases hat with e | e | ⟨g, e, hg⟩
      · left; rw [e] at h1; exact mem_own_vw h1
      · rw [e] at h1; cases h1
      · rw [e] at h1; cases h1; exact .inr hg
    · exact .inl h1
  have hR' := rnew_ok (w' := w3) h.hR hs3 hOwn
  have hR'' : ∀ b, R b → RNew R w w3 (ownL p mf mn vs vw' fb) b := fun b hb => .inl hb
  refine .of_parts (mf := mf) (mn := mn) (ms := ms) (fb := fb) (vs := vs) (vw := vw') (ss := ss) (ws := ws') (e := e) ?_ (hcc.mono (fun x hx _ => by rcases hx with hx | rfl; exact mem_own_vw hx; exact mem_own_p)) hOwn
  exact {
    cells := by simpa using hcell3
    filesM := hcc.map h.filesM (by rintro (e | e); exact (h.ne_vw e).1 rfl; exact n1 e.symm)
    namesM := hcc.map h.namesM (by rintro (e | e); exact (h.ne_vw e).2.2.1 rfl; exact n2 e.symm)
    sureM := hcc.map h.sureM (hRO _ h.sureR)
    count := h.count
    file := fun i b d hb hd => (h.file i b d hb hd).kept hcc hRO hR'' (by have := List.mem_of_getElem? hb; rintro (e | e); exact (h.ne_vw e).2.2.2.2 this; exact n5 (e ▸ this))
    stepsR := hcc.row h.stepsR (fun k hk => by rintro (e | e); exact (h.ne_vw e).2.2.2.1 hk; exact n3 k hk e)
    step := fun i v x hv hx => (h.step i v x hv hx).kept hcc hRO hR''
    writesR := hrow3
    count4 := h4
    write := fun i c x hc hx => (hw i c x hc hx).kept hcc hRO hR''
    apart := apart_vw h.apart (hat.imp id (fun e => e.imp id (fun ⟨g, e, hg⟩ => ⟨g, e, fun b hb => by have := h.lt hb; omega⟩)))
    own := fun b hb => ⟨by
      rcases mem_own_newW (vw := vw) hb with h1 | h1
      · exact (hrow3.lt b h1).2
      · have := h.lt h1; omega, fun hr => (hR' b hr).2 hb⟩
    shared := fun b hb => (hR' b hb).1
    sureR := .inl h.sureR }
end

end Go.Proofs.YtlmdpcaikhdenaaGreat
/- Disk: a write is laid, and is pending. -/
namespace Go.Proofs.YtlmdpcaikhdenaaGreat
open Go.RowKit Go.Maps

theorem Tryz.info125 : (Tryz.prog.info? 125).map (fun i => (i.zero, i.size, i.bytes)) = some (some (.agg #[.int .i64 0, .int .i64 0, .bool false, .nilFunc]), 4, 32) := by kernel_rfl

theorem row_slice {w : World} {base size n : Nat} {e : TypeId} {v : Value} {xs : List Value} (h : w.ownsRow base e size v n xs) : ∃ a c, v = .slice a n c := by
  rcases h.2 with ⟨rfl, rfl⟩ | ⟨g, cap, cur, rfl, _⟩
  · exact ⟨_, _, rfl⟩
  · exact ⟨_, _, rfl⟩
theorem wr_one {x : Wr} {N : FuncId} {caps : Array Value} : ∀ u ∈ [Value.int .i64 (x.file : Int), .int .i64 (x.data.length : Int), .bool x.cut, .func (.func N) #[] caps], u.oneCell' = true := by
  intro u hu; simp only [List.mem_cons, List.not_mem_nil, or_false] at hu; rcases hu with rfl | rfl | rfl | rfl <;> rfl

set_option maxRecDepth 100000 in
set_option maxHeartbeats 4000000 in
theorem written_any {w : World} {p : Nat} {s : DSt} {R : Nat → Prop} {mf mn ms : Nat} {fb : List Nat} {vs vw : Value} {ss : List Value} {ws : List (List Value)} {e : TypeId} (h : DiskP w p s R mf mn ms fb vs vw ss ws e)
    {x : Wr} {v : Value} (hv : LayIn w R v x) {N : Nat} (hok : s.Ok N) (hN : N < maxList) (hf : x.file < s.files.length) (hp : x.place + x.data.length ≤ maxFile) :
    Calls Tryz.prog 231 #[.pointer (some ⟨p, 0, none⟩), .agg #[.int .i64 (x.file : Int), .int .i64 (x.data.length : Int), .bool x.cut, v]] w fun e w' => e = .returned (.int .i64 0) ∧ Turns w w' p (s.written x) (ownL p mf mn vs vw fb) R := by
  obtain ⟨i0, hi, hz0, hz1, hz2⟩ := info_parts Tryz.info125
  have hmx : maxList = 4194304 := rfl
  have hmf : maxFile = 1099511627776 := rfl
  have hfl : x.file ≤ 4194304 := by have := hok.manyFiles; omega
  obtain ⟨o, ho⟩ : ∃ o, o = Obj.cells #[.int .i64 (x.file : Int), .int .i64 (x.data.length : Int), .bool x.cut, v] 125 := ⟨_, rfl⟩
  have hb1 := below_alloc w o
  have h1 := h.grow hb1
  have hv1 : LayIn (w.alloc o) (RNew R w (w.alloc o) (ownL p mf mn vs vw fb)) v x := hv.kept (Chg.of_below (O := fun _ => False) hb1) (fun _ _ h => h) (fun b h => .inl h)
  have hbx : (w.alloc o).heap[w.heap.size]? = some o := World.alloc_heap_new w o
  have hz1' : (w.alloc o).heap.size = w.heap.size + 1 := World.size_alloc _ _
  have hplt := heap_lt h.cells
  obtain ⟨b, e', vd, vs', hfb, hfh, hbd, hbs, hlk⟩ := h1.file_at (n := x.file) hf (by omega)
  go_enter Tryz.func231, Tryz.ntmps231
  go_wp2
  rw [← ho]
  generalize w.alloc o = w1 at *
  subst ho
  have c1 := cell_of_heap h1.cells (i := 1) (v := .map (some mf)) (by rfl)
  have d0 := cell_of_heap hbx (i := 0) (v := .int .i64 (x.file : Int)) (by rfl)
  go_quiet (fail)
  have hcn : Chg (fun _ => False) w1 (w1.drewN nq) := (Chg.refl _ w1).drewN nq
  have h2 := h1.drewN nq
  have hv2 := hv1.kept hcn (fun _ _ h => h) (fun _ h => h)
  have hbd2 := hbd.kept hcn (fun _ _ h => h) (fun _ h => h)
  have hbs2 := hbs.kept hcn (fun _ _ h => h) (fun _ h => h)
  have hfh2 := hcn.obj hfh (fun h => h)
  have hbx2 := hcn.obj hbx (fun h => h)
  have hb2 : Below w.heap.size w (w1.drewN nq) := below_drewN hb1 nq
  have hz2 : (w1.drewN nq).heap.size = w.heap.size + 1 := hz1'
  clear hv1 hbd hbs hfh hbx hlk c1 d0 hcn hb1 hz1'
  have hR12 : RNew R w w1 (ownL p mf mn vs vw fb) = RNew R w (w1.drewN nq) (ownL p mf mn vs vw fb) := rfl
  rw [hR12] at h2 hv2 hbd2 hbs2
  clear hR12 h1
  generalize w1.drewN nq = w2 at *
  clear w1
  obtain ⟨da, dc, rfl, _, _, _⟩ := hbd2.row
  have f0 := cell_of_heap hfh2 (i := 0) (v := .slice da (s.stands x.file).length dc) (by rfl)
  have x1 := cell_of_heap hbx2 (i := 1) (v := .int .i64 (x.data.length : Int)) (by rfl)
  have x3 := cell_of_heap hbx2 (i := 3) (v := v) (by rfl)
  have hcd : Chg (fun _ => False) w2 w2.drew := (Chg.refl _ w2).drew
  have h3 := h2.kept hcd (fun _ _ h => h) (fun _ _ h => h)
  have hv3 := hv2.kept hcd (fun _ _ h => h) (fun _ h => h)
  have hbd3 := hbd2.kept hcd (fun _ _ h => h) (fun _ h => h)
  have hbs3 := hbs2.kept hcd (fun _ _ h => h) (fun _ h => h)
  have hfh3 := hcd.obj hfh2 (fun h => h)
  have hbx3 := hcd.obj hbx2 (fun h => h)
  have hb3 : Below w.heap.size w w2.drew := hb2.drew
  obtain ⟨N, caps, rfl, henter, hcall⟩ := wr_lays hv3 hbd3 (hok.stands_le _) hp (Nat.le_refl _) h3.shared
  unfold enters at henter
  go_wp2
  have hfb0 : b < w2.drew.heap.size := heap_lt hfh3
  go_region_law (first | (go_simp; refine hcall.mono ?_; rintro _ w4 ⟨u, rfl, hu, hb4⟩; obtain ⟨ua, uc, rfl, _⟩ := hu.row; have f4 := (hb4.cell (p := ⟨b, 0, none⟩) hfb0).trans (cell_of_heap hfh3 (i := 0) (v := .slice da (s.stands x.file).length dc) (by rfl)); have z4 := frozen_of_heap (i := 0) ((hb4.block b hfb0).trans hfh3)))
  all_goals
    have hcR : ∀ y, RNew R w w2 (ownL p mf mn vs vw fb) y → ¬ y = b := fun y hy e => (h3.hR y hy).2 (e ▸ mem_own_fb (List.mem_of_getElem? hfb))
    obtain ⟨U, hU⟩ : ∃ U, U = Value.slice ua (laid (s.stands x.file) x x.data.length).length uc := ⟨_, rfl⟩
    rw [← hU] at hu ⊢
    have hc5 : Chg (· = b) w4 (w4.setCell ⟨b, 0, none⟩ U) := Chg.set _ rfl
    have hc34 : Chg (fun _ => False) w2.drew w4 := Chg.of_below hb4
    have h4 := h3.grow hb4
    have hRN : ∀ y, RNew R w w2 (ownL p mf mn vs vw fb) y ∨ NewIn w2.drew w4 y → RNew (RNew R w w2 (ownL p mf mn vs vw fb)) w2.drew w4 (ownL p mf mn vs vw fb) y := fun y hy => hy.imp id (fun hy => ⟨hy.1, hy.2, fun hm => by have := h3.lt hm; have := hy.1; omega⟩)
    have hbO : ∀ y, RNew (RNew R w w2 (ownL p mf mn vs vw fb)) w2.drew w4 (ownL p mf mn vs vw fb) y → ¬ y = b := fun y hy e => (h4.hR y hy).2 (e ▸ mem_own_fb (List.mem_of_getElem? hfb))
    have hfile : FileIn (w4.setCell ⟨b, 0, none⟩ U) (RNew (RNew R w w2 (ownL p mf mn vs vw fb)) w2.drew w4 (ownL p mf mn vs vw fb)) b (laid (s.stands x.file) x x.data.length, s.lasts x.file) :=
      ⟨e', U, vs', heap_set_cells U (hc34.obj hfh3 (fun h => h)), (hu.mono hRN).kept hc5 hbO (fun _ h => h), (hbs3.kept (R' := RNew (RNew R w w2 (ownL p mf mn vs vw fb)) w2.drew w4 (ownL p mf mn vs vw fb)) hc34 (fun _ _ h => h) (fun _ h => .inl h)).kept hc5 hbO (fun _ h => h)⟩
    have h5 := h4.setFile hfb hc5 hfile
    have hbx5 := hc5.obj (hc34.obj hbx3 (fun h => h)) (fun e => by have := h.lt (mem_own_fb (mf := mf) (p := p) (mn := mn) (vs := vs) (vw := vw) (List.mem_of_getElem? hfb)); omega)
    have hv5 := (hv3.kept (R' := RNew (RNew R w w2 (ownL p mf mn vs vw fb)) w2.drew w4 (ownL p mf mn vs vw fb)) hc34 (fun _ _ h => h) (fun _ h => .inl h)).kept hc5 hbO (fun _ h => h)
    have hc05 : Chg (· ∈ ownL p mf mn vs vw fb) w (w4.setCell ⟨b, 0, none⟩ U) := ((Chg.of_below hb3).trans (Chg.of_below (O := (· ∈ ownL p mf mn vs vw fb)) hb4) (fun _ h _ => h)).trans hc5 (fun y e _ => by subst e; exact mem_own_fb (List.mem_of_getElem? hfb))
    have hR5 : ∀ y, RNew (RNew R w w2 (ownL p mf mn vs vw fb)) w2.drew w4 (ownL p mf mn vs vw fb) y → RNew R w (w4.setCell ⟨b, 0, none⟩ U) (ownL p mf mn vs vw fb) y := by
      have e1 : (w4.setCell ⟨b, 0, none⟩ U).heap.size = w4.heap.size := by simp [World.setCell]
      have e2 : w2.heap.size = w2.drew.heap.size := rfl
      have e3 := hb4.size
      have e4 := hb3.size
      rintro y ((hy | ⟨l1, l2, l3⟩) | ⟨l1, l2, l3⟩)
      · exact .inl hy
      · exact .inr ⟨l1, by omega, l3⟩
      · exact .inr ⟨by omega, by omega, l3⟩
    have HR5 := Lib.hid hR5; clear hR5
    generalize RNew (RNew R w w2 (ownL p mf mn vs vw fb)) w2.drew w4 (ownL p mf mn vs vw fb) = R5 at *
    generalize w4.setCell ⟨b, 0, none⟩ U = w5 at *
    clear hc5 hc34 hfile hbO hRN h4 hcR f4 z4 hu hb4 hcall hv3 hbd3 hbs3 hfh3 hbx3 hb3 hcd h3 f0 x1 x3 hfh2 hbx2 hbd2 hbs2 hb2 hz2 h2 hv2
    have c5 := cell_of_heap h5.cells (i := 5) (v := vw) (by rfl)
    have x0 := cell_of_heap hbx5 (i := 0) (v := .int .i64 (x.file : Int)) (by rfl)
    have x1 := cell_of_heap hbx5 (i := 1) (v := .int .i64 (x.data.length : Int)) (by rfl)
    have x2 := cell_of_heap hbx5 (i := 2) (v := .bool x.cut) (by rfl)
    have x3 := cell_of_heap hbx5 (i := 3) (v := .func (.func N) #[] caps) (by rfl)
    obtain ⟨o2, ho2⟩ : ∃ o2, o2 = Obj.cells #[.int .i64 (x.file : Int), .int .i64 (x.data.length : Int), .bool x.cut, .func (.func N) #[] caps] 125 := ⟨_, rfl⟩
    have hrow6 := ((Chg.alloc (fun _ => False) w5 o2).drew).row h5.writesR (fun _ _ h => h)
    have hcel6 := ((Chg.alloc (fun _ => False) w5 o2).drew).obj h5.cells (fun h => h)
    have c6 := cell_of_heap hcel6 (i := 5) (v := vw) (by rfl)
    have hnew6 : ∀ j u, [Value.int .i64 (x.file : Int), .int .i64 (x.data.length : Int), .bool x.cut, .func (.func N) #[] caps][j]? = some u → (w5.alloc o2).drew.cell? ((⟨w5.heap.size, 0, none⟩ : Addr).add j) = some u := by
      have := World.news_of_block (w := (w5.alloc o2).drew) (B := w5.heap.size) (cs := #[.int .i64 (x.file : Int), .int .i64 (x.data.length : Int), .bool x.cut, .func (.func N) #[] caps]) (t := 125) (fr := (0, 0)) (by subst ho2; exact World.alloc_heap_new w5 _)
      simpa using this
    have hz6 : (w5.alloc o2).drew.heap.size = w5.heap.size + 1 := World.size_alloc _ _
    have hwn := hok.manyWrites
    have HO2 := Lib.hid ho2
    subst ho2
    have HR6 := Lib.hid hrow6; clear hrow6
    have HN6 := Lib.hid hnew6; clear hnew6
    have HC6 := Lib.hid hcel6; clear hcel6
    have HZ6 := Lib.hid hz6; clear hz6
    go_wp2
    obtain ⟨n1, n2, n3, n4, n5⟩ := h.ne_p
    go_region_law (refine step_append_lies _ rfl (.tmp 29) (.tmp 31) 111 rfl 0 125 i0 _ 4 32 Tryz.underlying111 hi hz0 hz1 hz2 rfl (by decide) _ s.writes.length ws.flatten (by simp [Act.eval]) HR6.out ⟨w5.heap.size, 0, none⟩ 1 1 _ (by simp [Act.eval]) rfl HN6.out wr_one (by decide) (by unfold maxLen; omega) (by omega) (Nat.zero_le _) (w5.heap.size + 1) HZ6.out ?_; intro g7 cap7 w7 hown7 hg7 hat7 hlt7; have hc7 : Chg (fun k => vw.ownBlock = some k) (w5.alloc (Obj.cells #[.int .i64 (x.file : Int), .int .i64 (x.data.length : Int), .bool x.cut, .func (.func N) #[] caps] 125)).drew w7 := Chg.of_grown hg7 (fun k e _ => e); have hcel7 := hc7.obj HC6.out (fun e => n4 _ e rfl); have f7 := cell_of_heap hcel7 (i := 5) (v := vw) (by rfl); have z7 := frozen_of_heap (i := 5) hcel7)
    all_goals
      go_wp2
      go_ret
      refine ⟨rfl, Turns.after' hc05 h.hR (h5.setWrites (W := s.writes ++ [x]) (ws' := ws ++ [[.int .i64 (x.file : Int), .int .i64 (x.data.length : Int), .bool x.cut, .func (.func N) #[] caps]]) (((Chg.alloc _ w5 _).drew).trans hc7 (fun _ h _ => h)) ?_ ?_ ?_ ?_) (fun y hy => .inl hy) HR5.out⟩
      · rw [List.length_append, List.flatten_append]; simpa using hown7
      · rcases hat7 with e | e
        · exact .inl e.symm
        · exact .inr (.inr ⟨g7, rfl, by omega⟩)
      · have := h.count4; simp [this]
      · intro i c y hc hy
        rcases app_one hc hy h.count4 with ⟨k1, k2⟩ | ⟨rfl, rfl⟩
        · exact h5.write i c y k1 k2
        · exact ⟨_, rfl, hv5⟩

end Go.Proofs.YtlmdpcaikhdenaaGreat
