/- Texts of this claim, one behind the other: IaF, IaG. -/
import Derived.Test.YtljobojdcnhecaaFm03
import Derived.Laws.IdiomCopy
import Derived.Shelf.Spec.SlicesInsert
set_option linter.unusedSimpArgs false
set_option linter.unusedVariables false
set_option maxRecDepth 100000
set_option maxHeartbeats 4000000
namespace Go.Proofs.Ytljobojdcnhecaa
/- Sha: the reference turns a state by a block. -/
open Go.RowKit Go.Maps

theorem rrot_to {x r : UInt32} {n : Nat} {m : Int} (hr : rotr x n = r) (h0 : 0 < n) (h1 : n < 32) (hm : m = (n : Int)) (w : World) : Calls Try.prog 84 #[.int .u32 (x.toNat : Int), .int .i64 m] w fun e w' => e = .returned (.int .u32 (r.toNat : Int)) ∧ ∃ q, w' = w.drewN q := by
  subst hm; rw [← hr]; exact rrot_any x n h0 h1 w
theorem rrot_q {x r : UInt32} {n : Nat} {m : Int} (hr : rotr x n = r) (h0 : 0 < n) (h1 : n < 32) (hm : m = (n : Int)) (w : World) (k : Nat) : Calls Try.prog 84 #[.int .u32 (x.toNat : Int), .int .i64 m] (w.drewN k) fun e w' => e = .returned (.int .u32 (r.toNat : Int)) ∧ ∃ q, w' = w.drewN q :=
  Calls.quiet_of (rrot_to hr h0 h1 hm _)
theorem rk_pick {L : List Value} {t : Nat} (h : t < L.length) (hL : L = shaK.map uv) : Ending.returned (L[t]'h) = .returned (.int .u32 ((shaK.getD t 0).toNat : Int)) := by
  subst hL
  have h' : t < shaK.length := by simpa using h
  simp [uv, List.getElem?_eq_getElem h']
theorem rk_any {t : Nat} (ht : t < 64) (w : World) : Calls Try.prog 85 #[.int .i64 (t : Int)] w fun e w' => e = .returned (.int .u32 ((shaK.getD t 0).toNat : Int)) ∧ Below w.heap.size w w' := by
  have i1 : (0 : Int) ≤ (t : Int) := by omega
  have i2 : (t : Int) < 64 := by omega
  go_enter Try.func85, Try.ntmps85
  go_wp2
  go_ret
  refine ⟨?_, below_alloc _ _⟩
  change Ending.returned (getElem (coll := List Value) _ t _) = _
  exact rk_pick _ (by kernel_rfl)
theorem wArr_zero_app {L : List UInt32} (h : L.length < 64) : wArr (L ++ [0]) = wArr L := by
  unfold wArr
  obtain ⟨k, hk⟩ : ∃ k, 64 - L.length = k + 1 := ⟨63 - L.length, by omega⟩
  rw [hk, List.map_append, List.length_append, show 64 - (L.length + [(0 : UInt32)].length) = k from by simp; omega, List.replicate_succ]
  simp
theorem u_shl8' (x : UInt32) (d : UInt8) : ∃ m r : UInt32, (IntKind.u32.wrap ((x.toNat : Int) * 256) = (m.toNat : Int) ∧ (x.toNat : Int) * (256 : Int) % (4294967296 : Int) = (m.toNat : Int)) ∧ (d.toNat : Int) % 4294967296 = (d.toNat : Int) ∧
    (IntKind.u32.wrap ((m.toNat : Int) + (d.toNat : Int)) = (r.toNat : Int) ∧ ((m.toNat : Int) + (d.toNat : Int)) % (4294967296 : Int) = (r.toNat : Int)) ∧ Hid (r = (x <<< 8) ||| d.toUInt32) := by
  have h := u_shl8 x
  have hd := d.toNat_lt
  have hx := u_lt x
  have hs := u_lt (x <<< 8)
  have e : ((x <<< 8).toNat : Int) + (d.toNat : Int) = (((x <<< 8) ||| d.toUInt32).toNat : Int) := by
    have h2 : (x <<< 8).toNat % 2 ^ 8 = 0 := by omega
    rw [UInt32.toNat_or, UInt8.toNat_toUInt32, nat_join 8 _ _ h2 (by omega)]; push_cast; rfl
  have he := u_lt ((x <<< 8) ||| d.toUInt32)
  refine ⟨_, _, ⟨by rw [IntKind.wrap_u32']; exact h, h⟩, by omega, ⟨?_, ?_⟩, rfl⟩
  · rw [IntKind.wrap_u32', e]; omega
  · rw [e]; omega
theorem mixR (p q x y : UInt32) : ∃ r7 r18 x3 xa xb r17 r19 y10 ya yb s1 s2 s3 : UInt32, rotr x 7 = r7 ∧ rotr x 18 = r18 ∧ (x.toNat : Int) / 8 = (x3.toNat : Int) ∧ bits .xor .u32 (r7.toNat : Int) (r18.toNat : Int) = (xa.toNat : Int) ∧ bits .xor .u32 (xa.toNat : Int) (x3.toNat : Int) = (xb.toNat : Int) ∧
    rotr y 17 = r17 ∧ rotr y 19 = r19 ∧ (y.toNat : Int) / 1024 = (y10.toNat : Int) ∧ bits .xor .u32 (r17.toNat : Int) (r19.toNat : Int) = (ya.toNat : Int) ∧ bits .xor .u32 (ya.toNat : Int) (y10.toNat : Int) = (yb.toNat : Int) ∧
    (IntKind.u32.wrap ((p.toNat : Int) + (xb.toNat : Int)) = (s1.toNat : Int) ∧ ((p.toNat : Int) + (xb.toNat : Int)) % 4294967296 = (s1.toNat : Int)) ∧ (IntKind.u32.wrap ((s1.toNat : Int) + (q.toNat : Int)) = (s2.toNat : Int) ∧ ((s1.toNat : Int) + (q.toNat : Int)) % 4294967296 = (s2.toNat : Int)) ∧
    (IntKind.u32.wrap ((s2.toNat : Int) + (yb.toNat : Int)) = (s3.toNat : Int) ∧ ((s2.toNat : Int) + (yb.toNat : Int)) % 4294967296 = (s3.toNat : Int)) ∧ Hid (s3 = p + q + sg0 x + sg1 y) := by
  refine ⟨_, _, _, _, _, _, _, _, _, _, _, _, _, rfl, rfl, u_shr x 3 (by decide), u_xor _ _, u_xor _ _, rfl, rfl, u_shr y 10 (by decide), u_xor _ _, u_xor _ _, ⟨u_add _ _, u_add' _ _⟩, ⟨u_add _ _, u_add' _ _⟩, ⟨u_add _ _, u_add' _ _⟩, ?_⟩
  show p + sg0 x + q + sg1 y = p + q + sg0 x + sg1 y
  rw [UInt32.add_assoc p, UInt32.add_comm (sg0 x), ← UInt32.add_assoc]
theorem rBlock_any {w : World} {v : List UInt32} {l : List UInt8} {ad : Option Addr} {cp : Nat} (hv : v.length = 8) (hl : l.length = 64) (hrow : RowAt w ad (l.map bv)) :
    Calls Try.prog 71 #[.agg (v.map uv).toArray, .slice ad 64 cp] w fun e w' => e = .returned (.agg ((turn v l).map uv).toArray) ∧ Below w.heap.size w w' := by
  match v, hv with
  | [a, b, c, d, e, f, g, h], _ =>
  have hT : (turn [a, b, c, d, e, f, g, h] l).length = 8 := turn_len rfl
  obtain ⟨bl, off, rfl, hcl⟩ := hrow.at_ (k := 0) (by simp [hl])
  clear hcl
  obtain ⟨w3, hw3, hb3, hz3, hxA, hxC⟩ := al2 w #[.int .u32 (a.toNat : Int), .int .u32 (b.toNat : Int), .int .u32 (c.toNat : Int), .int .u32 (d.toNat : Int), .int .u32 (e.toNat : Int), .int .u32 (f.toNat : Int), .int .u32 (g.toNat : Int), .int .u32 (h.toNat : Int)] 83 #[.int .u32 0, .int .u32 0, .int .u32 0, .int .u32 0, .int .u32 0, .int .u32 0, .int .u32 0, .int .u32 0] 83
  have HB := Lib.hid (And.intro hb3 (And.intro hxA (And.intro hxC (hrow.below hb3))))
  have HL := Lib.hid hl
  have hg3 : w.heap.size + 1 < w3.heap.size := by omega
  have HZ := Lib.hid hz3
  clear hb3 hxA hxC hz3 hrow hl
  simp only [List.map_cons, List.map_nil]
  unfold uv
  go_enter Try.func71, Try.ntmps71
  go_wp2
  go_loopw [6] (fun i wr => ∃ t : Nat, t ≤ 16 ∧ i = .int .i64 t ∧ wr.heap[w3.heap.size]? = some (.cells (wArr (words16 t l)) 119 (0, 0)) ∧ Below w3.heap.size w3 wr) (fun i _ => 16 - (intOf i).toNat)
  case atStart => exact ⟨0, by omega, rfl, World.alloc_heap_new _ _, below_alloc _ _⟩
  case round =>
    obtain ⟨t, ht, rfl, hD, hbr⟩ := hrel
    by_cases hlt : t < 16
    · have HD := Lib.hid (And.intro hD hbr)
      have i1 : (0 : Int) ≤ (t : Int) := by omega
      have i2 : (t : Int) < 64 := by omega
      have i2' : (t : Int) < 16 := by omega
      clear hD hbr
      go_wp2
      obtain ⟨wo, rfl⟩ : ∃ wo : World, wo = wr := ⟨_, rfl⟩
      go_loopw [7] (fun i wr => ∃ j : Nat, j ≤ 4 ∧ i = .int .i64 j ∧ wr.heap[w3.heap.size]? = some (.cells (wArr (words16 t l ++ [word4 (((l.drop (4 * t)).take 4).take j)])) 119 (0, 0)) ∧ Below w3.heap.size w3 wr) (fun i _ => 4 - (intOf i).toNat)
      case atStart => exact ⟨0, by omega, rfl, by rw [show word4 (((l.drop (4 * t)).take 4).take 0) = 0 from rfl, wArr_zero_app (by rw [words16_len]; omega)]; exact HD.out.1, HD.out.2⟩
      case round =>
        clear HD
        obtain ⟨j, hj, rfl, hD, hbr⟩ := hrel
        by_cases hlt2 : j < 4
        · obtain ⟨x, hx⟩ : ∃ x, word4 (((l.drop (4 * t)).take 4).take j) = x := ⟨_, rfl⟩
          obtain ⟨d', hd'⟩ : ∃ d', l[4 * t + j]'(by rw [HL.out]; omega) = d' := ⟨_, rfl⟩
          have hsn : word4 (((l.drop (4 * t)).take 4).take (j + 1)) = (x <<< 8) ||| d'.toUInt32 := by
            rw [List.take_add_one, List.getElem?_take, if_pos hlt2, List.getElem?_drop, List.getElem?_eq_getElem (by rw [HL.out]; omega), hd', ← hx]; exact word4_snoc _ _
          rw [hx] at hD
          have qB : wr.cell? ⟨bl, off + (4 * t + j), none⟩ = some (.int .u8 (d'.toNat : Int)) := by
            obtain ⟨b2, o2, e2, hc2⟩ := (HB.out.2.2.2.below hbr).at_ (k := 4 * t + j) (by rw [List.length_map, HL.out]; omega)
            cases e2
            rw [hc2, List.getElem_map, hd']; rfl
          have qD : wr.cell? ⟨w3.heap.size, t, none⟩ = some (uv x) := cell_of_heap hD (by have := wArr_get (L := words16 t l ++ [x]) (i := t) (by simp [words16_len]); rw [this]; simp [words16_len])
          have zD : wr.frozen? ⟨w3.heap.size, t, none⟩ = false := frozen_of_heap hD
          obtain ⟨m, r, ⟨p1, p1'⟩, p2, ⟨p3, p3'⟩, HM⟩ := u_shl8' x d'
          have hp := wArr_put2 (L := words16 t l) x r (by rw [words16_len]; omega)
          rw [words16_len] at hp
          have hD2 : (wr.setCell ⟨w3.heap.size, t, none⟩ (uv r)).heap[w3.heap.size]? = some (.cells (wArr (words16 t l ++ [word4 (((l.drop (4 * t)).take 4).take (j + 1))])) 119 (0, 0)) := by
            rw [hsn, ← HM.out, ← hp]; exact heap_set_cells (i := t) (uv r) hD
          have HD := Lib.hid (And.intro hD2 (below_set (i := t) hbr (Nat.le_refl _) (uv r)))
          unfold uv at qD HD
          have j1 : (0 : Int) ≤ (j : Int) := by omega
          have j2 : (j : Int) < 4 := by omega
          have j3 : (0 : Int) ≤ 4 * (t : Int) + (j : Int) := by omega
          have j4 : 4 * (t : Int) + (j : Int) < 64 := by omega
          have j6 : IntKind.i64.wrap (4 * (t : Int)) = 4 * (t : Int) := Go.IntWalk.i64_in _ ⟨by omega, by omega⟩
          have j7 : IntKind.i64.wrap (4 * (t : Int) + (j : Int)) = 4 * (t : Int) + (j : Int) := Go.IntWalk.i64_in _ ⟨by omega, by omega⟩
          have j5 : (4 * (t : Int) + (j : Int)).toNat = 4 * t + j := by omega
          clear hD hbr hx hd' hsn hD2 hp
          go_wp2
          go_still_tail 15, (by kernel_rfl)
          change wpList _ _ _ _ _ wr.drew
          clear j6 j7
          go_wp2
          go_roundw
          case rel => exact ⟨j + 1, by omega, by go_num, HD.out.1, below_drewN HD.out.2 1⟩
          case measure => simp [intOf]; omega
        · obtain rfl : j = 4 := by omega
          rw [show ((4 : Nat) : Int) = 4 from rfl]
          rw [List.take_of_length_le (by rw [List.length_take]; omega), ← words16_snoc] at hD
          have HD := Lib.hid (And.intro hD hbr)
          clear hD hbr hlt2 hj
          go_wp2
          go_roundw
          case rel => exact ⟨t + 1, by omega, by go_num, HD.out.1, HD.out.2⟩
          case measure => simp [intOf]; omega
    · obtain rfl : t = 16 := by omega
      rw [show ((16 : Nat) : Int) = 16 from rfl]
      have H0 := Lib.hid (And.intro hD hbr)
      clear hD hbr hlt ht
      go_wp2
      go_loopw [8] (fun i wr => ∃ n : Nat, n ≤ 48 ∧ i = .int .i64 (16 + (n : Int)) ∧ wr.heap[w3.heap.size]? = some (.cells (wArr (sched l n)) 119 (0, 0)) ∧ Below w3.heap.size w3 wr) (fun i _ => 64 - (intOf i).toNat)
      case atStart => exact ⟨0, by omega, rfl, H0.out.1, H0.out.2⟩
      case round =>
        clear H0
        obtain ⟨n, hn, rfl, hD, hbr⟩ := hrel
        by_cases hlt : n < 48
        · have hL := sched_len l n
          obtain ⟨x, hx⟩ : ∃ x, (sched l n).getD (n + 1) 0 = x := ⟨_, rfl⟩
          obtain ⟨y, hy⟩ : ∃ y, (sched l n).getD (n + 14) 0 = y := ⟨_, rfl⟩
          obtain ⟨p, hp⟩ : ∃ p, (sched l n).getD n 0 = p := ⟨_, rfl⟩
          obtain ⟨q, hq⟩ : ∃ q, (sched l n).getD (n + 9) 0 = q := ⟨_, rfl⟩
          have d1 := cell_of_heap hD (i := n + 1) (wArr_get (by omega))
          rw [hx] at d1
          unfold uv at d1
          have HX := Lib.hid (And.intro hD hbr)
          have HS : Hid (sched l (n + 1) = sched l n ++ [p + q + sg0 x + sg1 y]) := by
            show _ = _
            rw [← hx, ← hy, ← hp, ← hq, sched, nextW]
            simp only [show 16 + n - 16 = n from by omega, show 16 + n - 7 = n + 9 from by omega, show 16 + n - 15 = n + 1 from by omega, show 16 + n - 2 = n + 14 from by omega]
          have HN := Lib.hid (And.intro hx (And.intro hy (And.intro hp hq)))
          have e1 : IntKind.i64.wrap (16 + (n : Int) - 15) = ((n + 1 : Nat) : Int) := by rw [Go.IntWalk.i64_in] <;> omega
          have e2 : IntKind.i64.wrap (16 + (n : Int) - 2) = ((n + 14 : Nat) : Int) := by rw [Go.IntWalk.i64_in] <;> omega
          have i1 : (0 : Int) ≤ (n : Int) := by omega
          have i2 : (n : Int) < 64 := by omega
          have f1 : (0 : Int) ≤ (n : Int) + 1 := by omega
          have f2 : (n : Int) + 1 < 64 := by omega
          have f3 : (0 : Int) ≤ (n : Int) + 14 := by omega
          have f4 : (n : Int) + 14 < 64 := by omega
          have f5 : ((n : Int) + 1).toNat = n + 1 := by omega
          have f6 : ((n : Int) + 14).toNat = n + 14 := by omega
          obtain ⟨r7, r18, x3, xa, xb, r17, r19, y10, ya, yb, s1, s2, s3, o7, o18, p1, p2, p3, o17, o19, p4, p5, p6, ⟨p7, p7'⟩, ⟨p8, p8'⟩, ⟨p9, p9'⟩, HM⟩ := mixR p q x y
          have k7 := fun w => rrot_q (m := 7) o7 (by decide) (by decide) rfl w
          have k18 := fun w => rrot_q (m := 18) o18 (by decide) (by decide) rfl w
          have k17 := fun w => rrot_q (m := 17) o17 (by decide) (by decide) rfl w
          have k19 := fun w => rrot_q (m := 19) o19 (by decide) (by decide) rfl w
          clear hD hL hx hy hp hq o7 o18 o17 o19 hbr
          go_wp2
          go_quiet (first | (go_at_call 84; with_reducible exact k7 wr _) | (go_at_call 84; with_reducible exact k18 wr _))
          have hV : (wr.drewN nq).heap[w3.heap.size]? = _ := HX.out.1
          have hbr : Below w3.heap.size w3 (wr.drewN nq) := below_drewN HX.out.2 nq
          clear d1 HX
          generalize wr.drewN nq = wr at *
          have d2 := cell_of_heap hV (i := n + 14) (wArr_get (by rw [sched_len]; omega))
          rw [HN.out.2.1] at d2
          unfold uv at d2
          have HX := Lib.hid (And.intro hV hbr)
          clear hV hbr
          go_wp2
          go_quiet (first | (go_at_call 84; with_reducible exact k17 wr _) | (go_at_call 84; with_reducible exact k19 wr _))
          have hV : (wr.drewN nq).heap[w3.heap.size]? = _ := HX.out.1
          have hbr : Below w3.heap.size w3 (wr.drewN nq) := below_drewN HX.out.2 nq
          clear d2 HX e1 e2 k7 k18 k17 k19 p1 p2 p3 p4 p5 p6
          generalize wr.drewN nq = wr at *
          have d3 := cell_of_heap hV (i := n) (wArr_get (by rw [sched_len]; omega))
          have d4 := cell_of_heap hV (i := n + 9) (wArr_get (by rw [sched_len]; omega))
          have c0 : wr.cell? ⟨w3.heap.size, 16 + n, none⟩ = some (uv 0) := cell_of_heap hV (wArr_zero (by rw [sched_len]; omega) (by omega))
          have z0 : wr.frozen? ⟨w3.heap.size, 16 + n, none⟩ = false := frozen_of_heap hV
          rw [HN.out.2.2.1] at d3
          rw [HN.out.2.2.2] at d4
          have hp2 := wArr_put (L := sched l n) s3 (by rw [sched_len]; omega)
          rw [sched_len] at hp2
          have hD2 : (wr.setCell ⟨w3.heap.size, 16 + n, none⟩ (uv s3)).heap[w3.heap.size]? = some (.cells (wArr (sched l (n + 1))) 119 (0, 0)) := by
            rw [HS.out, ← HM.out, ← hp2]; exact heap_set_cells (i := 16 + n) (uv s3) hV
          have HY := Lib.hid (And.intro hD2 (below_set (i := 16 + n) hbr (Nat.le_refl _) (uv s3)))
          unfold uv at d3 d4 c0 HY
          have e3 : IntKind.i64.wrap (16 + (n : Int) - 16) = (n : Int) := by rw [Go.IntWalk.i64_in] <;> omega
          have e4 : IntKind.i64.wrap (16 + (n : Int) - 7) = ((n + 9 : Nat) : Int) := by rw [Go.IntWalk.i64_in] <;> omega
          have e5 : (16 + (n : Int)).toNat = 16 + n := by omega
          have e6 : ((n : Int) + 9).toNat = n + 9 := by omega
          have i3 : (0 : Int) ≤ (n : Int) + 9 := by omega
          have i4 : (n : Int) + 9 < 64 := by omega
          have i5 : (0 : Int) ≤ 16 + (n : Int) := by omega
          have i6 : 16 + (n : Int) < 64 := by omega
          clear hV hbr hD2 hp2
          go_wp2
          go_still_tail 15, (by kernel_rfl)
          change wpList _ _ _ _ _ wr.drew
          clear e3 e4 f1 f2 f3 f4 f5 f6
          go_wp2
          go_roundw
          case rel => exact ⟨n + 1, by omega, by go_num, HY.out.1, below_drewN HY.out.2 1⟩
          case measure => simp [intOf]; omega
        · obtain rfl : n = 48 := by omega
          rw [show 16 + ((48 : Nat) : Int) = 64 from rfl]
          have H0 := Lib.hid (And.intro hD hbr)
          have hA := below_keep hbr HB.out.2.1
          obtain ⟨q0, q1, q2, q3, q4, q5, q6, q7⟩ := Ce7 hA
          clear hD hbr hlt hn hA
          go_wp2
          go_quiet (fail)
          have H5 : Hid ((wr.drewN nq).heap[w3.heap.size]? = some (.cells (wArr (sched l 48)) 119 (0, 0)) ∧ Below w3.heap.size w3 (wr.drewN nq)) := ⟨H0.out.1, below_drewN H0.out.2 nq⟩
          clear q0 q1 q2 q3 q4 q5 q6 q7 H0
          generalize wr.drewN nq = w5 at *
          go_wp2
          go_loopw [11, 12, 13, 14, 15, 16, 17, 18, 19] (fun x1 x2 x3 x4 x5 x6 x7 x8 i wr => ∃ t : Nat, t ≤ 64 ∧ i = .int .i64 t ∧ ∃ a1 b1 c1 d1 e1 f1 g1 h1 : UInt32, Hid (rounds [a, b, c, d, e, f, g, h] (sched l 48) t = [a1, b1, c1, d1, e1, f1, g1, h1]) ∧
            x1 = .int .u32 (a1.toNat : Int) ∧ x2 = .int .u32 (b1.toNat : Int) ∧ x3 = .int .u32 (c1.toNat : Int) ∧ x4 = .int .u32 (d1.toNat : Int) ∧ x5 = .int .u32 (e1.toNat : Int) ∧ x6 = .int .u32 (f1.toNat : Int) ∧ x7 = .int .u32 (g1.toNat : Int) ∧ x8 = .int .u32 (h1.toNat : Int) ∧ Below w5.heap.size w5 wr) (fun _ _ _ _ _ _ _ _ i _ => 64 - (intOf i).toNat)
          case atStart => exact ⟨0, by omega, rfl, a, b, c, d, e, f, g, h, rfl, rfl, rfl, rfl, rfl, rfl, rfl, rfl, rfl, Below.refl _ _⟩
          case round =>
            obtain ⟨t, ht, rfl, a1, b1, c1, d1, e1, f1, g1, h1, HR, rfl, rfl, rfl, rfl, rfl, rfl, rfl, rfl, hbr⟩ := hrel
            by_cases hlt : t < 64
            · have i1 : (0 : Int) ≤ (t : Int) := by omega
              have i2 : (t : Int) < 64 := by omega
              obtain ⟨k, hk⟩ : ∃ k, shaK.getD t 0 = k := ⟨_, rfl⟩
              obtain ⟨x, hx⟩ : ∃ x, (sched l 48).getD t 0 = x := ⟨_, rfl⟩
              have cK := fun w => rk_any hlt w
              have qW := cell_of_heap (below_keep hbr H5.out.1) (wArr_get (i := t) (by rw [sched_len]; omega))
              rw [hk] at cK
              rw [hx] at qW
              unfold uv at qW
              obtain ⟨r6, r11, r25, ra, rb, s1, ef, ne, neg, ch, s2, s3, s4, o6, o11, o25, p1, p2, ⟨p3, p3'⟩, p4, p5, p6, p7, ⟨p8, p8'⟩, ⟨p9, p9'⟩, ⟨p10, p10'⟩, HX⟩ := mixX e1 f1 g1 h1 k x
              have hsg : IntKind.u32.signed = false := rfl
              have k6 := fun w => rrot_to (m := 6) o6 (by decide) (by decide) rfl w
              have k11 := fun w => rrot_to (m := 11) o11 (by decide) (by decide) rfl w
              have k25 := fun w => rrot_to (m := 25) o25 (by decide) (by decide) rfl w
              have HK := Lib.hid (And.intro hk hx)
              have hlt' := heap_lt (below_keep hbr H5.out.1)
              clear o6 o11 o25 hk hx
              go_wp2
              go_region_held3 (fun w' => w'.cell? ⟨w3.heap.size, t, none⟩ = some (.int .u32 (x.toNat : Int))) (first | exact qW | exact (hb9.cell (p := ⟨w3.heap.size, t, none⟩) hlt').trans qW)
                (first | ((with_reducible refine (k6 _).mono ?_); rintro _ w6 ⟨rfl, n6, rfl⟩) | ((with_reducible refine (k11 _).mono ?_); rintro _ w6 ⟨rfl, n6, rfl⟩) | ((with_reducible refine (k25 _).mono ?_); rintro _ w6 ⟨rfl, n6, rfl⟩) | ((with_reducible refine (cK _).mono ?_); rintro _ w9 ⟨rfl, hb9⟩))
              have hb59 : Below w5.heap.size w5 w9 := bthen hbr (show Below wr.heap.size wr w9 from ⟨hb9.os, hb9.tape, hb9.output, hb9.size, hb9.block⟩)
              clear hb9 hbr qW cK k6 k11 k25 p1 p2 p3 p3' p4 p5 p6 p7 p8 p8' p9 p9' p10 p10' hlt'
              obtain ⟨r2, r13, r22, ra, rb, ab, ac, m1, bc, m2, y, o2, o13, o22, p1, p2, p3, p4, p5, p6, p7, ⟨p8, p8'⟩, HY⟩ := mixY a1 b1 c1
              have k2 := fun w => rrot_to (m := 2) o2 (by decide) (by decide) rfl w
              have k13 := fun w => rrot_to (m := 13) o13 (by decide) (by decide) rfl w
              have k22 := fun w => rrot_to (m := 22) o22 (by decide) (by decide) rfl w
              obtain ⟨u1, ⟨q1, q1'⟩, HU⟩ := mixS s4 y
              obtain ⟨u2, ⟨q2, q2'⟩, HU2⟩ := mixS d1 s4
              clear o2 o13 o22
              have HB9 := Lib.hid hb59
              clear hb59
              go_wp2_with (first | ((with_reducible refine (k2 _).mono ?_); rintro _ w6 ⟨rfl, n6, rfl⟩) | ((with_reducible refine (k13 _).mono ?_); rintro _ w7 ⟨rfl, n7, rfl⟩) | ((with_reducible refine (k22 _).mono ?_); rintro _ w8 ⟨rfl, n8, rfl⟩))
              go_roundw
              case rel =>
                refine ⟨t + 1, by omega, by go_num, u1, a1, b1, c1, u2, e1, f1, g1, ?_, rfl, rfl, rfl, rfl, rfl, rfl, rfl, rfl, ⟨HB9.out.os, HB9.out.tape, HB9.out.output, HB9.out.size, HB9.out.block⟩⟩
                show rnd _ _ _ = _
                rw [HR.out, HK.out.1, HK.out.2]
                show [_, _, _, _, _, _, _, _] = _
                rw [HU.out, HU2.out, HX.out, HY.out]
              case measure => simp [intOf]; omega
            · obtain rfl : t = 64 := by omega
              rw [show ((64 : Nat) : Int) = 64 from rfl]
              clear hlt ht
              have hb3w := bthen H5.out.2 hbr
              have hA := below_keep hb3w HB.out.2.1
              obtain ⟨q0, q1, q2, q3, q4, q5, q6, q7⟩ := Ce7 hA
              have hbw : Below w.heap.size w wr := HB.out.1.trans (hb3w.mono HB.out.1.size)
              have hC := below_keep hb3w HB.out.2.2.1
              obtain ⟨y0, y1, y2, y3, y4, y5, y6, y7⟩ := Ce7 hC
              obtain ⟨z0, z1, z2, z3, z4, z5, z6, z7⟩ := Fz7 hC
              obtain ⟨v1, ⟨t1, t1'⟩, V1⟩ := mixS a a1
              obtain ⟨v2, ⟨t2, t2'⟩, V2⟩ := mixS b b1
              obtain ⟨v3, ⟨t3, t3'⟩, V3⟩ := mixS c c1
              obtain ⟨v4, ⟨t4, t4'⟩, V4⟩ := mixS d d1
              obtain ⟨v5, ⟨t5, t5'⟩, V5⟩ := mixS e e1
              obtain ⟨v6, ⟨t6, t6'⟩, V6⟩ := mixS f f1
              obtain ⟨v7, ⟨t7, t7'⟩, V7⟩ := mixS g g1
              obtain ⟨v8, ⟨t8, t8'⟩, V8⟩ := mixS h h1
              have Hr : Hid (turn [a, b, c, d, e, f, g, h] l = [v1, v2, v3, v4, v5, v6, v7, v8]) := by
                show _ = _
                unfold turn
                rw [HR.out]
                show [_, _, _, _, _, _, _, _] = _
                rw [V1.out, V2.out, V3.out, V4.out, V5.out, V6.out, V7.out, V8.out, UInt32.add_comm a, UInt32.add_comm b, UInt32.add_comm c, UInt32.add_comm d, UInt32.add_comm e, UInt32.add_comm f, UInt32.add_comm g, UInt32.add_comm h]
              have HW := fun u0 u1 u2 u3 u4 u5 u6 u7 => set8 (u0 := u0) (u1 := u1) (u2 := u2) (u3 := u3) (u4 := u4) (u5 := u5) (u6 := u6) (u7 := u7) hC hbw (by omega)
              have HW := Lib.hid HW
              clear hbr hb3w hA hbw hC
              go_wp2
              exact bodyPost_ret (results_cell_row (by rfl) _ _ (w.heap.size + 1) _ _ _ _ (by rfl) (HW.out ..).1 Try.underlying83 (by kernel_rfl) (by kernel_rfl)) rfl ⟨by rw [Hr.out]; rfl, (HW.out ..).2⟩

/- Sha: the sum under way in memory; take. -/

/-- values laid over those of a list from a place on -/
def lay : List Value → Nat → List Value → List Value
  | cs, _, [] => cs
  | cs, o, v :: r => lay (cs.set o v) (o + 1) r
theorem lay_len (vs : List Value) : ∀ (cs : List Value) (o : Nat), (lay cs o vs).length = cs.length := by
  induction vs with
  | nil => intro cs o; rfl
  | cons v r ih => intro cs o; rw [lay, ih]; simp
theorem lay_get (vs : List Value) : ∀ (cs : List Value) (o : Nat), o + vs.length ≤ cs.length → ∀ j, (lay cs o vs)[j]? = if o ≤ j ∧ j < o + vs.length then vs[j - o]? else cs[j]? := by
  induction vs with
  | nil => intro cs o h j; rw [lay, if_neg (by rw [List.length_nil]; omega)]
  | cons v r ih =>
    intro cs o h j
    rw [List.length_cons] at h
    rw [lay, ih _ _ (by simp; omega)]
    simp only [List.length_cons]
    by_cases h1 : o + 1 ≤ j ∧ j < o + 1 + r.length
    · rw [if_pos h1, if_pos (by omega), show j - o = (j - (o + 1)) + 1 from by omega, List.getElem?_cons_succ]
    · rw [if_neg h1]
      by_cases h2 : j = o
      · subst h2
        rw [if_pos (by omega), Nat.sub_self, List.getElem?_set_self (by omega)]
        rfl
      · rw [if_neg (by omega), List.getElem?_set_ne (by omega)]
theorem setCells_heap (vs : List Value) : ∀ {w : World} {g o : Nat} {cs : Array Value} {t : TypeId}, w.heap[g]? = some (.cells cs t (0, 0)) → (w.setCells g o vs).heap[g]? = some (.cells (lay cs.toList o vs).toArray t (0, 0)) ∧ Chg (· = g) w (w.setCells g o vs) := by
  induction vs with
  | nil => intro w g o cs t h; exact ⟨by simpa [World.setCells, lay] using h, Chg.refl _ _⟩
  | cons v r ih =>
    intro w g o cs t h
    have h2 := heap_set_cells (i := o) v h
    obtain ⟨k1, k2⟩ := ih (o := o + 1) h2
    refine ⟨?_, (Chg.set (O := (· = g)) v rfl).trans k2 (fun _ h _ => h)⟩
    rw [World.setCells, k1, lay, Array.toList_setIfInBounds]
theorem lay_eq (vs cs : List Value) (o : Nat) (h : o + vs.length ≤ cs.length) : lay cs o vs = cs.take o ++ (vs ++ cs.drop (o + vs.length)) := by
  apply List.ext_getElem?
  intro j
  rw [lay_get _ _ _ h]
  by_cases h1 : j < o
  · rw [if_neg (by omega), List.getElem?_append_left (by rw [List.length_take]; omega), List.getElem?_take, if_pos h1]
  · rw [List.getElem?_append_right (by rw [List.length_take]; omega), List.length_take, Nat.min_eq_left (by omega)]
    by_cases h2 : j < o + vs.length
    · rw [if_pos (by omega), List.getElem?_append_left (by omega)]
    · rw [if_neg (by omega), List.getElem?_append_right (by omega), List.getElem?_drop]
      congr 1; omega
/-! ### plain -/
def qOf (l : List UInt8) : Nat := l.length / 64
def rOf (l : List UInt8) : Nat := l.length % 64
/-- the state behind the whole blocks of l -/
def stOf (l : List UInt8) : List UInt32 := turns sha0 l (qOf l)
theorem stOf_len (l : List UInt8) : (stOf l).length = 8 := turns_len _ sha0_len
theorem drop_len (l : List UInt8) : (l.drop (64 * qOf l)).length = rOf l := by rw [List.length_drop]; unfold qOf rOf; omega
theorem sha_part {l x buf : List UInt8} (hb : buf.length = 64) (hbuf : buf.take (rOf l) = l.drop (64 * qOf l)) (hx : rOf l + x.length < 64) :
    stOf (l ++ x) = stOf l ∧ rOf (l ++ x) = rOf l + x.length ∧ (buf.take (rOf l) ++ (x ++ buf.drop (rOf l + x.length))).take (rOf (l ++ x)) = (l ++ x).drop (64 * qOf (l ++ x)) := by
  have h1 : qOf (l ++ x) = qOf l := by unfold qOf rOf at *; rw [List.length_append]; omega
  have h2 : rOf (l ++ x) = rOf l + x.length := by unfold rOf at *; rw [List.length_append]; omega
  have h3 : 64 * qOf l ≤ l.length := by unfold qOf; omega
  refine ⟨by unfold stOf; rw [h1, turns_app _ _ _ _ h3], h2, ?_⟩
  rw [h1, h2, List.drop_append_of_le_length h3, ← hbuf, ← List.append_assoc, List.take_append_of_le_length (by rw [List.length_append, List.length_take]; unfold rOf; omega), List.take_of_length_le (by rw [List.length_append, List.length_take]; unfold rOf; omega)]
theorem sha_full {l x buf : List UInt8} (hb : buf.length = 64) (hbuf : buf.take (rOf l) = l.drop (64 * qOf l)) (hx : rOf l + x.length = 64) :
    stOf (l ++ x) = turn (stOf l) (buf.take (rOf l) ++ (x ++ buf.drop (rOf l + x.length))) ∧ rOf (l ++ x) = 0 ∧ (l ++ x).drop (64 * qOf (l ++ x)) = [] := by
  have h1 : qOf (l ++ x) = qOf l + 1 := by unfold qOf rOf at *; rw [List.length_append]; omega
  have h2 : rOf (l ++ x) = 0 := by unfold rOf at *; rw [List.length_append]; omega
  have h3 : 64 * qOf l ≤ l.length := by unfold qOf; omega
  have h4 : (l ++ x).length = 64 * qOf (l ++ x) := by unfold qOf rOf at *; rw [List.length_append] at *; omega
  refine ⟨?_, h2, List.drop_of_length_le (by omega)⟩
  rw [List.drop_of_length_le (by omega), List.append_nil, hbuf]
  unfold stOf
  rw [h1]
  have e : l ++ x = l.take (64 * qOf l) ++ (l.drop (64 * qOf l) ++ x) := by rw [← List.append_assoc, List.take_append_drop]
  have e2 : turns sha0 l (qOf l) = turns sha0 (l.take (64 * qOf l)) (qOf l) := by
    have := turns_app (qOf l) sha0 (l.take (64 * qOf l)) (l.drop (64 * qOf l)) (by rw [List.length_take]; omega)
    rw [List.take_append_drop] at this
    exact this
  rw [e2]
  conv => lhs; rw [e]
  exact turns_snoc _ _ _ _ (by rw [List.length_take]; omega) (by rw [List.length_append, drop_len]; omega)
/-! ### in memory -/
/-- the cells of a sum under way -/
def shaC (st : List UInt32) (buf : List UInt8) (n : Nat) : List Value := st.map uv ++ (buf.map bv ++ [.int .i64 (n : Int), .bool true])
theorem shaC_len {st : List UInt32} {buf : List UInt8} {n : Nat} (h1 : st.length = 8) (h2 : buf.length = 64) : (shaC st buf n).length = 74 := by simp [shaC, h1, h2]
theorem shaC_st {st st' : List UInt32} {buf : List UInt8} {n : Nat} (h1 : st.length = 8) (h2 : st'.length = 8) : lay (shaC st buf n) 0 (st'.map uv) = shaC st' buf n := by
  rw [lay_eq _ _ _ (by simp [shaC, h1, h2]), List.take_zero, List.nil_append, List.length_map, h2]
  unfold shaC
  rw [List.drop_append_of_le_length (by simp [h1]), List.drop_of_length_le (by simp [h1]), List.nil_append]
theorem shaC_buf {st : List UInt32} {buf x : List UInt8} {n at_ : Nat} (h1 : st.length = 8) (h2 : buf.length = 64) (h3 : at_ + x.length ≤ 64) : lay (shaC st buf n) (8 + at_) (x.map bv) = shaC st (buf.take at_ ++ (x ++ buf.drop (at_ + x.length))) n := by
  rw [lay_eq _ _ _ (by rw [shaC_len h1 h2, List.length_map]; omega), List.length_map]
  unfold shaC
  rw [List.take_append, List.take_of_length_le (by simp [h1]), List.length_map, h1, show 8 + at_ - 8 = at_ from by omega, List.take_append_of_le_length (by rw [List.length_map]; omega), ← List.map_take,
    List.drop_append, List.drop_of_length_le (by simp [h1]; omega), List.nil_append, List.length_map, h1, show 8 + at_ + x.length - 8 = at_ + x.length from by omega, List.drop_append_of_le_length (by rw [List.length_map]; omega), ← List.map_drop]
  simp
theorem shaC_n {st : List UInt32} {buf : List UInt8} {n m : Nat} (h1 : st.length = 8) (h2 : buf.length = 64) : (shaC st buf n).toArray.setIfInBounds 72 (.int .i64 (m : Int)) = (shaC st buf m).toArray := by
  unfold shaC
  rw [List.setIfInBounds_toArray, List.set_append_right _ _ (by simp [h1]), List.set_append_right _ _ (by simp [h1, h2])]
  simp [h1, h2]
theorem shaC_get_n {st : List UInt32} {buf : List UInt8} {n : Nat} (h1 : st.length = 8) (h2 : buf.length = 64) : (shaC st buf n).toArray[72]? = some (.int .i64 (n : Int)) := by
  unfold shaC
  rw [List.getElem?_toArray, List.getElem?_append_right (by simp [h1]), List.getElem?_append_right (by simp [h1, h2])]
  simp [h1, h2]
theorem range_of_heap {w : World} {p o : Nat} {cs vs : List Value} {e : TypeId} {f : Nat × Nat} (h : w.heap[p]? = some (.cells cs.toArray e f)) (hv : ∀ j v, vs[j]? = some v → cs[o + j]? = some v) : w.rangeAt p o vs := fun j v hj => cell_of_heap h (by rw [List.getElem?_toArray]; exact hv j v hj)
theorem there_of_heap {w : World} {p o n : Nat} {cs : List Value} {e : TypeId} (h : w.heap[p]? = some (.cells cs.toArray e (0, 0))) (hn : o + n ≤ cs.length) : w.there p o n := fun j hj => ⟨by rw [cell_of_heap h (v := cs[o + j]'(by omega)) (by simp)]; rfl, frozen_of_heap h⟩
/-- A SUM UNDER WAY LIES AT s: it has taken l -/
def ShaAt (w : World) (s : Nat) (l : List UInt8) : Prop := ∃ buf : List UInt8, buf.length = 64 ∧ buf.take (rOf l) = l.drop (64 * qOf l) ∧ w.heap[s]? = some (.cells (shaC (stOf l) buf l.length).toArray 116 (0, 0))
theorem ShaAt.keep {w w' : World} {s : Nat} {l : List UInt8} {O : Nat → Prop} (h : ShaAt w s l) (hc : Chg O w w') (hs : ¬ O s) : ShaAt w' s l := by
  obtain ⟨buf, h1, h2, h3⟩ := h
  exact ⟨buf, h1, h2, hc.obj h3 hs⟩

end Go.Proofs.Ytljobojdcnhecaa
