/- Texts of this claim, one behind the other: IbM, IbN. -/
import Derived.Test.YtljobojdcnhecaaFm17
import Derived.Test.YtljobojdcnhecaaFm16
set_option linter.unusedSimpArgs false
set_option linter.unusedVariables false
set_option maxRecDepth 100000
set_option maxHeartbeats 16000000
namespace Go.Proofs.Ytljobojdcnhecaa
/- Find: Short. (printed by gen/shortx.py) -/
open Go.RowKit Go.Maps Go.MapKept

/-- the greatest so far -/
def mTo (O : List PN) (h : List UInt8) (z : Nat → Int) : Nat → Nat
  | 0 => 0
  | k + 1 => max (mTo O h z k) (nb O h (z k))
theorem leaf_bad {E : List (List UInt8)} {n : Int} (h : ¬ (0 ≤ n ∧ n < E.length)) : leafR E n = (zeros, 4) := by unfold leafR; rw [if_neg h]
theorem nb_in {O : List PN} {h : List UInt8} {i : Nat} {p : PN} (hp : O[i]? = some p) : nb O h (i : Int) = shareN p.1 h + 1 := by
  have hi := (List.getElem?_eq_some_iff.1 hp).1
  unfold nb
  rw [if_pos (by omega)]
  simp [List.getD, hp]
theorem nb_out {O : List PN} {h : List UInt8} {z : Int} (hz : ¬ (0 ≤ z ∧ z < O.length)) : nb O h z = 0 := by unfold nb; rw [if_neg hz]
/-- Short's answer -/
def shortR (E : List (List UInt8)) (n : Int) : Nat × Int := if 0 ≤ n ∧ n < E.length then (shortP (E.map leaf) (leaf (E.getD n.toNat [])), 0) else (0, 4)
theorem short_nil (w : World) (n : Int) : Calls Try.prog 18 #[.pointer none, .int .i64 n] w fun e w' => e = .returned (.tuple #[.int .i64 0, .int .i64 1]) ∧ Below w.heap.size w w' := by
  have cL := leaf_nil w n
  have HZ : Hid ((zeros.map bv).toArray.size = 32) := by show _ = _; rfl
  unfold hashV at cL
  go_enter Try.func18, Try.ntmps18
  go_wp2_with fail
  ((with_reducible refine cL.mono ?_); rintro _ w1 ⟨rfl, hb1⟩)
  obtain ⟨w2, hw2, hb2, hz2, hx2⟩ := al1 w1 (zeros.map bv).toArray 33
  go_wp2_with (refine wpList_store_row rfl _ _ _ rfl w1.heap.size (zeros.map bv).toArray (by rfl) (by rfl) _ _ (World.alloc_heap_new w1 _) (by rw [HZ.out]; kernel_rfl) (by rw [HZ.out]; rfl) bytes_one ?_; rw [World.setRow_alloc_new, hw2])
  go_ret2
  exact ⟨rfl, hb1.trans (hb2.mono hb1.size)⟩
theorem short_any {F G : Nat → Prop} {w : World} {bx : Nat} {E : List (List UInt8)} (hX : XAt F G w bx E) (hE : E.length ≤ 4194304) (hs : ∀ l ∈ E, l.length ≤ 4096) (n : Int) (hn : -9223372036854775808 ≤ n ∧ n < 9223372036854775808) :
    Calls Try.prog 18 #[.pointer (some ⟨bx, 0, none⟩), .int .i64 n] w fun e w' => e = .returned (.tuple #[.int .i64 ((shortR E n).1 : Nat), .int .i64 (shortR E n).2]) ∧ Below w.heap.size w w' := by
  have cL := leaf_any hX hs n hn
  by_cases h1 : 0 ≤ n ∧ n < E.length
  · obtain ⟨ve, vo, vm, hX0⟩ := hX
    obtain ⟨H, hH⟩ : ∃ H, E.map leaf = H := ⟨_, rfl⟩
    have hH32 : Len32 H := by rw [← hH]; exact leafs_len E
    have hHl : H.length = E.length := by rw [← hH, List.length_map]
    rw [hH] at hX0
    obtain ⟨h, hh⟩ : ∃ h, leaf (E.getD n.toNat []) = h := ⟨_, rfl⟩
    have h32 : h.length = 32 := by rw [← hh]; exact leaf_len _
    have er : shortR E n = (shortP H h, 0) := by unfold shortR; rw [if_pos h1, hH, hh]
    have el : leafR E n = (h, 0) := by unfold leafR; rw [if_pos h1, hh]
    rw [er]
    rw [el] at cL
    obtain ⟨oa, oc, rfl, hoc, hon, hor, hoo⟩ := row_slice2 hX0.order
    rw [hHl] at hX0 hoc
    have HZ : Hid ((h.map bv).toArray.size = 32) := by show _ = _; rw [List.size_toArray, List.length_map, h32]
    have HX := Lib.hid (And.intro hX0 (And.intro hH32 (And.intro hHl (And.intro h32 (And.intro hor hoo)))))
    unfold hashV at cL
    clear hX0 hH32 hHl h32 hor hoo er el hh h1 hon
    go_enter Try.func18, Try.ntmps18
    go_wp2_with fail
    ((with_reducible refine cL.mono ?_); rintro _ w1 ⟨rfl, hb1⟩)
    obtain ⟨w2, hw2, hb2, hz2, hx2⟩ := al1 w1 (h.map bv).toArray 33
    have hbw2 := hb1.trans (hb2.mono hb1.size)
    have hX2 := HX.out.1.below hbw2
    have hO2 := hX2.order
    rw [HX.out.2.2.1] at hO2
    have c1 := ce1 hX2.cell
    have cA := at_any (w := w2) (bx := bx) (O := ordN H) (h := h) c1 (by rw [ordN_length, HX.out.2.2.1]; exact hO2) HX.out.2.1.ord (ordN_sorted H) HX.out.2.2.2.1 (by rw [ordN_length, HX.out.2.2.1]; exact hE)
    obtain ⟨p0, hp0⟩ : ∃ p0, (ordN H).countP (fun p => decide (cmpB p.1 h < 0)) = p0 := ⟨_, rfl⟩
    rw [hp0] at cA
    have hp0n : p0 ≤ E.length := by rw [← hp0, ← HX.out.2.2.1, ← ordN_length H]; exact List.countP_le_length
    have H2 := Lib.hid (And.intro hbw2 hx2)
    unfold hashV at cA
    clear cL hb1 hb2 hbw2 hX2 hO2 c1
    go_wp2_with (first
      | (refine wpList_store_row rfl _ _ _ rfl w1.heap.size (h.map bv).toArray (by rfl) (by rfl) _ _ (World.alloc_heap_new w1 _) (by rw [HZ.out]; kernel_rfl) (by rw [HZ.out]; rfl) bytes_one ?_; rw [World.setRow_alloc_new, hw2])
      | (refine wpList_load_row rfl 33 _ rfl w1.heap.size (by rfl) _ _ _ _ H2.out.2 Try.underlying33 (by kernel_rfl) (by rw [HZ.out]; kernel_rfl) ?_))
    ((with_reducible refine cA.mono ?_); rintro _ w3 ⟨rfl, hb3⟩)
    have hbw3 := H2.out.1.trans (hb3.mono H2.out.1.size)
    have hx3 := below_keep hb3 H2.out.2
    have hX3 := HX.out.1.below hbw3
    obtain ⟨vl, hvl, hvF, hrun⟩ := hX3.look HX.out.2.2.2.1
    obtain ⟨nl, hnl⟩ : ∃ nl, (likes H h).length = nl := ⟨_, rfl⟩
    obtain ⟨la, lk, rfl⟩ := row_slice hvl
    have hpl := place_is H h
    have hple : (ordN H).countP (fun p => decide (cmpB p.1 h ≤ 0)) ≤ E.length := by rw [← HX.out.2.2.1, ← ordN_length H]; exact List.countP_le_length
    rw [hnl, hp0] at hpl
    rw [hnl] at hrun
    have hms := MapSame.refl w3 vm
    have cm := ce2 hX3.cell
    have hrg := range_heap hx3
    have e1 : IntKind.i64.wrap ((p0 : Int) - 1) = (p0 : Int) - 1 := by rw [Go.IntWalk.i64_in] <;> omega
    have e2 : IntKind.i64.wrap ((p0 : Int) + (nl : Int)) = (p0 : Int) + (nl : Int) := by rw [Go.IntWalk.i64_in] <;> omega
    have H3 := Lib.hid (And.intro hbw3 (And.intro hx3 (And.intro hp0 hnl)))
    have hnb : p0 + nl ≤ E.length := by omega
    unfold hashV at hrun
    clear cA hb3 hbw3 hx3 hX3 hvl hvF hpl hple hp0 hnl
    go_upto_region 5 with fail
    refine wp_region_held_drew (S := fun w' => w'.cell? ⟨bx, 2, none⟩ = some vm ∧ MapSame w3 vm w' ∧ w'.rangeAt w1.heap.size 0 (h.map bv)) (by kernel_rfl) ⟨cm, hms, hrg⟩ (fun hHeld => ?_)
    refine tk 0 ?_ hHeld (fun w' hSw => ?_) ?_; rotate_left
    · (go_simp; all_goals (with_reducible rfl))
    (try simp only [Act.put, Zz])
    refine tk 1 ?_ hHeld (fun w' hSw => ?_) ?_; rotate_left
    · (go_simp; all_goals (with_reducible rfl))
    (try simp only [Act.put, Zz])
    refine tk 2 ?_ hHeld (fun w' hSw => ?_) ?_; rotate_left
    · (go_simp; all_goals (with_reducible rfl))
    (try simp only [Act.put, Zz])
    refine tk 3 ?_ hHeld (fun w' hSw => ?_) ?_; rotate_left
    · (go_simp; all_goals (with_reducible rfl))
    (try simp only [Act.put, Zz])
    refine tk 4 ?_ hHeld (fun w' hSw => ?_) ?_; rotate_left
    · (go_simp; all_goals (with_reducible rfl))
    (try simp only [Act.put, Zz])
    refine tk 5 ?_ hHeld (fun w' hSw => ?_) ?_; rotate_left
    · (go_simp; all_goals (with_reducible rfl))
    (try simp only [Act.put, Zz])
    refine tk 6 ?_ hHeld (fun w' hSw => ?_) ?_; rotate_left
    · (have h1 := hSw.1; go_simp; all_goals (with_reducible rfl))
    (try simp only [Act.put, Zz])
    refine wpAnyH_take (i := 7) rfl (by kernel_rfl) (by kernel_rfl) (by kernel_rfl) (fun _ _ _ h => h) (yieldsIf_load_mid (by rfl) 33 _ (by rfl) w1.heap.size 0 (by first | rfl | (simp [Act.eval, Act.put, Addr.add]; done)) _ _ (fun w' h => h.2.2) Try.underlying33 rfl (by rw [List.length_map, HX.out.2.2.2.1]; kernel_rfl)) hHeld ?_
    (try simp only [Act.put, Zz])
    refine tk 8 (.slice la nl lk) hHeld (fun w' hSw => exec_lookup 56 (.tmp 31) (.tmp 32) rfl _ _ _ rfl rfl (hrun w' hSw.2.1)) ?_
    (try simp only [Act.put, Zz])
    refine tk 9 ?_ hHeld (fun w' hSw => ?_) ?_; rotate_left
    · (go_simp; all_goals (with_reducible rfl))
    (try simp only [Act.put, Zz])
    refine tk 10 ?_ hHeld (fun w' hSw => ?_) ?_; rotate_left
    · (go_simp; all_goals (with_reducible rfl))
    (try simp only [Act.put, Zz])
    refine wpAnyH_ready (rs := [11]) (by kernel_rfl) (by simp) ?_
    refine AllReadyH.cons rfl (fun K hK => ?_) AllReadyH.nil
    go_simp
    obtain ⟨w4, hw4, hb4, hz4, hx4⟩ := al1 w3 #[.int .i64 ((p0 : Int) - 1), .int .i64 ((p0 : Int) + (nl : Int))] 3
    rw [hw4]
    refine hK.out _ _ (⟨up_cell (below_wdrew hb4) cm, hms.below (below_wdrew hb4), range_up (below_wdrew hb4) hrg⟩) (fun hHeld => ?_)
    clear hK K
    (try simp only [Act.put, Zz])
    refine tk 12 ?_ hHeld (fun w' hSw => ?_) ?_; rotate_left
    · (go_simp; all_goals (with_reducible rfl))
    (try simp only [Act.put, Zz])
    refine wpAnyH_done (by kernel_rfl) ?_ _
    (try simp only [Act.put, Zz])
    clear hHeld
    obtain ⟨z, hz⟩ : ∃ z : Nat → Int, z = (fun k => if k = 0 then (p0 : Int) - 1 else (p0 : Int) + (nl : Int)) := ⟨_, rfl⟩
    have hzq : ∀ k, k < 2 → w4.cell? ⟨w3.heap.size, k, none⟩ = some (.int .i64 (z k)) := fun k hk => by
      have : k = 0 ∨ k = 1 := by omega
      rcases this with rfl | rfl
      · rw [hz]; exact ce0 hx4
      · rw [hz]; exact ce1 hx4
    have hzr : ∀ k, k < 2 → -1 ≤ z k ∧ z k ≤ 4194304 := fun k hk => by
      rw [hz]
      simp only
      split <;> omega
    have H4 := Lib.hid (And.intro (H3.out.1.trans (hb4.mono H3.out.1.size)) (And.intro (below_keep hb4 H3.out.2.1) (And.intro hzq (And.intro hzr hz))))
    clear cm hms hrg hb4 hz4 hx4 hzq hzr hz hrun e1 e2
    go_wp2
    go_loopw [10, 39] (fun m i wr => ∃ k : Nat, k ≤ 2 ∧ i = .int .i64 k ∧ m = .int .i64 ((mTo (ordN H) h z k : Nat) : Int) ∧ Below w4.heap.size w4 wr) (fun _ i _ => 2 - (RowKit.intOf i).toNat)
    case atStart => exact ⟨0, by omega, rfl, rfl, below_wdrew (Below.refl _ _)⟩
    case round =>
      obtain ⟨k, hk, rfl, rfl, hbr⟩ := hrel
      by_cases hlt : k < 2
      · have q := up_cell hbr (H4.out.2.2.1 k hlt)
        obtain ⟨y, hy⟩ : ∃ y, z k = y := ⟨_, rfl⟩
        have hyr := H4.out.2.2.2.1 k hlt
        have hmT : mTo (ordN H) h z (k + 1) = max (mTo (ordN H) h z k) (nb (ordN H) h y) := by rw [mTo, hy]
        rw [hy] at q hyr
        obtain ⟨M, hM⟩ : ∃ M, mTo (ordN H) h z k = M := ⟨_, rfl⟩
        rw [hM] at hmT ⊢
        have hbw := H4.out.1.trans (hbr.mono H4.out.1.size)
        have hXr := HX.out.1.below hbw
        have c1 := ce1 hXr.cell
        have j0 : (0 : Int) ≤ (k : Int) := by omega
        have j1 : (k : Int) < 2 := by omega
        have HM := Lib.hid (And.intro hmT hM)
        have HBR := Lib.hid hbr
        clear hXr hmT hM hy
        by_cases hin : 0 ≤ y ∧ y < E.length
        · obtain ⟨i, rfl⟩ : ∃ i : Nat, y = (i : Int) := ⟨y.toNat, by omega⟩
          have hiE : i < E.length := by omega
          obtain ⟨p, hp⟩ : ∃ p, (ordN H)[i]? = some p := ⟨_, List.getElem?_eq_getElem (by rw [ordN_length, HX.out.2.2.1]; exact hiE)⟩
          have hp32 := HX.out.2.1.ord p (List.mem_of_getElem? hp)
          have hnbi := nb_in (h := h) hp
          have hsh := shareN_le p.1 h
          obtain ⟨ob, oo, rfl, hcell⟩ := HX.out.2.2.2.2.1 (by
            intro e
            have h1 := flat_fc HX.out.2.1.ord
            rw [e, ordN_length, HX.out.2.2.1] at h1
            simp at h1
            omega)
          have hrp : wr.rangeAt ob (oo + i * 33) (p.1.map bv) := range_left (ys := [.int .i64 (p.2 : Int)]) (fun j v hj => by
            rw [Nat.add_assoc]
            exact up_cell hbw (hcell _ v (flat_at HX.out.2.1.ord hp j v hj)))
          have hrh := range_up hbr (range_heap H4.out.2.1)
          have cS := fun W => share_any (w := W) hp32 HX.out.2.2.2.1
          have j2 : (0 : Int) ≤ (i : Int) := by omega
          have j3 : (i : Int) < (E.length : Int) := by omega
          have hpz : Hid (p.1.length = 32) := hp32
          have HN := Lib.hid hnbi
          obtain ⟨sh, hshe⟩ : ∃ sh, shareN p.1 h = sh := ⟨_, rfl⟩
          rw [hshe] at hsh
          have ew : IntKind.i64.wrap ((sh : Int) + 1) = (sh : Int) + 1 := by rw [Go.IntWalk.i64_in] <;> omega
          have HSH := Lib.hid hshe
          have HRR := Lib.hid (And.intro hrp hrh)
          unfold hashV at cS
          simp only [hshe] at cS
          clear hp hp32 hnbi hcell hrp hrh hbr hshe hbw
          go_upto_region 11 with fail
          refine wp_region_held_drew (S := fun w' => w'.cell? ⟨bx, 1, none⟩ = some (.slice (some ⟨ob, oo, none⟩) E.length oc) ∧ w'.rangeAt ob (oo + i * 33) (p.1.map bv) ∧ w'.rangeAt w1.heap.size 0 (h.map bv)) (by kernel_rfl) ⟨c1, HRR.out.1, HRR.out.2⟩ (fun hHeld => ?_)
          refine tk 0 ?_ hHeld (fun w' hSw => ?_) ?_; rotate_left
          · (go_simp; all_goals (with_reducible rfl))
          (try simp only [Act.put, Zz])
          refine tk 1 ?_ hHeld (fun w' hSw => ?_) ?_; rotate_left
          · (go_simp; all_goals (with_reducible rfl))
          (try simp only [Act.put, Zz])
          refine tk 2 ?_ hHeld (fun w' hSw => ?_) ?_; rotate_left
          · (go_simp; all_goals (with_reducible rfl))
          (try simp only [Act.put, Zz])
          refine tk 3 ?_ hHeld (fun w' hSw => ?_) ?_; rotate_left
          · (go_simp; all_goals (with_reducible rfl))
          (try simp only [Act.put, Zz])
          refine tk 4 ?_ hHeld (fun w' hSw => ?_) ?_; rotate_left
          · (have h1 := hSw.1; go_simp; all_goals (with_reducible rfl))
          (try simp only [Act.put, Zz])
          refine tk 5 ?_ hHeld (fun w' hSw => ?_) ?_; rotate_left
          · (go_simp; all_goals (with_reducible rfl))
          (try simp only [Act.put, Zz])
          refine tk 6 ?_ hHeld (fun w' hSw => ?_) ?_; rotate_left
          · (go_simp; all_goals (with_reducible rfl))
          (try simp only [Act.put, Zz])
          refine tk 7 ?_ hHeld (fun w' hSw => ?_) ?_; rotate_left
          · (go_simp; all_goals (with_reducible rfl))
          (try simp only [Act.put, Zz])
          refine wpAnyH_take (i := 8) rfl (by kernel_rfl) (by kernel_rfl) (by kernel_rfl) (fun _ _ _ h => h) (yieldsIf_load_mid (by rfl) 33 _ (by rfl) ob (oo + i * 33) (by first | rfl | (simp [Act.eval, Act.put, Addr.add]; done)) _ _ (fun w' h => h.2.1) Try.underlying33 rfl (by rw [List.length_map, hpz.out]; kernel_rfl)) hHeld ?_
          (try simp only [Act.put, Zz])
          refine wpAnyH_take (i := 9) rfl (by kernel_rfl) (by kernel_rfl) (by kernel_rfl) (fun _ _ _ h => h) (yieldsIf_load_mid (by rfl) 33 _ (by rfl) w1.heap.size 0 (by first | rfl | (simp [Act.eval, Act.put, Addr.add]; done)) _ _ (fun w' h => h.2.2) Try.underlying33 rfl (by rw [List.length_map, HX.out.2.2.2.1]; kernel_rfl)) hHeld ?_
          (try simp only [Act.put, Zz])
          refine wpAnyH_ready (rs := [10]) (by kernel_rfl) (by simp) ?_
          refine AllReadyH.cons rfl (fun K hK => ?_) AllReadyH.nil
          go_simp
          ((with_reducible refine (cS _).mono ?_); rintro _ w5 ⟨rfl, hb5⟩)
          replace hb5 := drew_below hb5
          refine hK.out _ _ (⟨up_cell hb5 c1, range_up hb5 HRR.out.1, range_up hb5 HRR.out.2⟩) (fun hHeld => ?_)
          clear hK K
          (try simp only [Act.put, Zz])
          refine tk 11 ?_ hHeld (fun w' hSw => ?_) ?_; rotate_left
          · (go_simp; all_goals (with_reducible rfl))
          (try simp only [Act.put, Zz])
          refine wpAnyH_ready (rs := [12]) (by kernel_rfl) (by simp) ?_
          refine AllReadyH.cons rfl (fun K hK => ?_) AllReadyH.nil
          go_simp
          refine hK.out _ _ (⟨up_cell hb5 c1, range_up hb5 HRR.out.1, range_up hb5 HRR.out.2⟩) (fun hHeld => ?_)
          clear hK K
          (try simp only [Act.put, Zz])
          refine tk 13 ?_ hHeld (fun w' hSw => ?_) ?_; rotate_left
          · (go_simp; all_goals (with_reducible rfl))
          (try simp only [Act.put, Zz])
          refine wpAnyH_done (by kernel_rfl) ?_ _
          (try simp only [Act.put, Zz])
          clear hHeld
          have H5 := Lib.hid (HBR.out.trans (hb5.mono HBR.out.size))
          clear hb5 cS c1
          go_wp2
          go_roundw
          case rel =>
            refine ⟨k + 1, by omega, by go_num, ?_, H5.out⟩
            rw [HM.out.1, HN.out, HSH.out]
            congr 1
            omega
          case measure => simp [RowKit.intOf]; omega
        · have hn0 : Hid (nb (ordN H) h y = 0) := nb_out (by rw [ordN_length, HX.out.2.2.1]; exact hin)
          clear hbw
          by_cases hy0 : 0 ≤ y
          · have e1 : ¬ y < (E.length : Int) := fun e => hin ⟨hy0, e⟩
            have e2 : (E.length : Int) ≤ y := by omega
            clear hin hbr
            go_wp2
            go_roundw
            case rel => exact ⟨k + 1, by omega, by go_num, by rw [HM.out.1, hn0.out, Nat.max_zero], HBR.out⟩
            case measure => simp [RowKit.intOf]; omega
          · have e1 : y < 0 := by omega
            clear hin hbr
            go_wp2
            go_roundw
            case rel => exact ⟨k + 1, by omega, by go_num, by rw [HM.out.1, hn0.out, Nat.max_zero], HBR.out⟩
            case measure => simp [RowKit.intOf]; omega
      · obtain rfl : k = 2 := by omega
        have hz := H4.out.2.2.2.2
        have hsp : Hid (mTo (ordN H) h z 2 = shortP H h) := by
          show _ = _
          rw [mTo, mTo, mTo, hz, shortP, H3.out.2.2.1, H3.out.2.2.2, Nat.zero_max]
          simp
        have hB := Lib.hid (H4.out.1.trans (hbr.mono H4.out.1.size))
        clear hz hbr
        go_wp2
        go_ret2
        exact ⟨by rw [← hsp.out]; rfl, hB.out⟩
  · have er : shortR E n = (0, 4) := by unfold shortR; rw [if_neg h1]
    rw [leaf_bad h1] at cL
    rw [er]
    have HZ : Hid ((zeros.map bv).toArray.size = 32) := by show _ = _; rfl
    unfold hashV at cL
    clear hX hs er h1 hn
    go_enter Try.func18, Try.ntmps18
    go_wp2_with fail
    ((with_reducible refine cL.mono ?_); rintro _ w1 ⟨rfl, hb1⟩)
    obtain ⟨w2, hw2, hb2, hz2, hx2⟩ := al1 w1 (zeros.map bv).toArray 33
    go_wp2_with (refine wpList_store_row rfl _ _ _ rfl w1.heap.size (zeros.map bv).toArray (by rfl) (by rfl) _ _ (World.alloc_heap_new w1 _) (by rw [HZ.out]; kernel_rfl) (by rw [HZ.out]; rfl) bytes_one ?_; rw [World.setRow_alloc_new, hw2])
    go_ret2
    exact ⟨rfl, hb1.trans (hb2.mono hb1.size)⟩

/- Find: Counts. (printed by gen/countx.py) -/

theorem i64_or_nat (a b : Nat) (ha : a < 2 ^ 63) (hb : b < 2 ^ 63) : bits .or .i64 (a : Int) (b : Int) = ((a ||| b : Nat) : Int) := by
  have hx : a ||| b < 2 ^ 63 := Nat.or_lt_two_pow ha hb
  show IntKind.i64.wrap ((BitVec.ofInt 64 (a : Int) ||| BitVec.ofInt 64 (b : Int)).toNat : Int) = _
  have e : ∀ x : Nat, x < 2 ^ 63 → (BitVec.ofInt 64 (x : Int)).toNat = x := fun x hx => by
    rw [BitVec.ofInt_natCast, BitVec.toNat_ofNat, Nat.mod_eq_of_lt (by omega)]
  rw [BitVec.toNat_or, e a ha, e b hb, Go.IntWalk.i64_in] <;> omega
theorem or_byte (m n : Nat) (hn : n < 256) : m * 256 ||| n = m * 256 + n := by
  rw [show m * 256 = m <<< 8 from by rw [Nat.shiftLeft_eq]]
  exact (Nat.shiftLeft_add_eq_or_of_lt (i := 8) hn m).symm
theorem wrap_pow (b : Nat) (h : b ≤ 16) : wrap64 ((2 : Int) ^ b) = ((2 ^ b : Nat) : Int) := by
  have : b = 0 ∨ b = 1 ∨ b = 2 ∨ b = 3 ∨ b = 4 ∨ b = 5 ∨ b = 6 ∨ b = 7 ∨ b = 8 ∨ b = 9 ∨ b = 10 ∨ b = 11 ∨ b = 12 ∨ b = 13 ∨ b = 14 ∨ b = 15 ∨ b = 16 := by omega
  rcases this with rfl | rfl | rfl | rfl | rfl | rfl | rfl | rfl | rfl | rfl | rfl | rfl | rfl | rfl | rfl | rfl | rfl <;> decide +kernel
theorem made_zeros (n : Nat) : (madeCells (Value.int .i64 0).cells n).toList = (List.replicate n 0).map iv := by
  apply List.ext_getElem?
  intro i
  unfold madeCells
  by_cases hi : i < n
  · simp [hi, Value.cells, iv, Nat.mod_one]
  · simp [hi]
/-- how many so far -/
def cts (O : List PN) (b k : Nat) : List Nat := (List.range (2 ^ b)).map fun j => (O.take k).countP fun p => decide (topN p.1 b = j)
theorem cts_len (O : List PN) (b k : Nat) : (cts O b k).length = 2 ^ b := by simp [cts]
theorem cts_zero (O : List PN) (b : Nat) : cts O b 0 = List.replicate (2 ^ b) 0 := by
  apply List.ext_getElem?
  intro i
  unfold cts
  by_cases hi : i < 2 ^ b
  · simp [hi]
  · simp [hi]
theorem cts_step {O : List PN} {b k t : Nat} {p : PN} (hp : O[k]? = some p) (ht : topN p.1 b = t) (htl : t < 2 ^ b) : ∃ c, (cts O b k)[t]? = some c ∧ c ≤ k ∧ cts O b (k + 1) = (cts O b k).set t (c + 1) := by
  refine ⟨(O.take k).countP fun p => decide (topN p.1 b = t), ?_, Nat.le_trans List.countP_le_length (by simp; omega), ?_⟩
  · unfold cts; rw [List.getElem?_map, List.getElem?_range htl]; rfl
  · apply List.ext_getElem?
    intro i
    rw [List.getElem?_set, cts_len]
    unfold cts
    rw [List.getElem?_map, List.getElem?_map]
    by_cases hi : i < 2 ^ b
    · rw [List.getElem?_range hi, Option.map_some, Option.map_some, List.take_add_one, hp, List.countP_append]
      by_cases e : t = i
      · subst e
        rw [if_pos rfl, if_pos htl]
        simp [ht]
      · rw [if_neg e]
        simp [ht, e]
    · rw [List.getElem?_eq_none (by simpa using hi), if_neg (by omega)]
      rfl
theorem cts_full (H : List (List UInt8)) (b : Nat) : cts (ordN H) b H.length = countsN H b := by
  unfold cts
  rw [← countsN_ord, List.take_of_length_le (by rw [ordN_length]; exact Nat.le_refl _)]
theorem counts_nil (w : World) (n : Int) : Calls Try.prog 13 #[.pointer none, .int .i64 n] w fun e w' => e = .returned (.tuple #[.slice none 0 0, .int .i64 1]) ∧ Below w.heap.size w w' := by
  go_enter Try.func13, Try.ntmps13
  go_wp2
  go_ret2
  exact ⟨rfl, Below.refl _ _⟩
theorem counts_bad (w : World) (bx : Nat) (n : Int) (hn : n < 0 ∨ 16 < n) : Calls Try.prog 13 #[.pointer (some ⟨bx, 0, none⟩), .int .i64 n] w fun e w' => e = .returned (.tuple #[.slice none 0 0, .int .i64 2]) ∧ Below w.heap.size w w' := by
  by_cases h0 : n < 0
  · have d1 : decide (n < 0) = true := decide_eq_true h0
    clear hn
    go_enter Try.func13, Try.ntmps13
    go_wp2
    go_ret2
    exact ⟨rfl, Below.refl _ _⟩
  · have h1 : 16 < n := by omega
    have d1 : decide (n < 0) = false := decide_eq_false h0
    have d2 : decide (16 < n) = true := decide_eq_true h1
    clear hn
    go_enter Try.func13, Try.ntmps13
    go_wp2
    go_ret2
    exact ⟨rfl, Below.refl _ _⟩
theorem counts_any {F G : Nat → Prop} {w : World} {bx : Nat} {E : List (List UInt8)} {b : Nat} (hX : XAt F G w bx E) (hE : E.length ≤ 4194304) (hb : b ≤ 16) :
    Calls Try.prog 13 #[.pointer (some ⟨bx, 0, none⟩), .int .i64 (b : Int)] w fun e w' => ∃ v, e = .returned (.tuple #[v, .int .i64 0]) ∧ w'.ownsRow w.heap.size 3 1 v (countsN (E.map leaf) b).length ((countsN (E.map leaf) b).map iv) ∧ Below w.heap.size w w' := by
  have hmax : maxLen = 9223372036854775807 := rfl
  obtain ⟨i2, hi2, hv0, hv1, hv2⟩ := info_parts Try.info3
  have hpw : 2 ^ b ≤ 65536 := Nat.le_trans (Nat.pow_le_pow_right (by omega) hb) (by decide)
  have hsh := wrap_pow b hb
  obtain ⟨P, hP⟩ : ∃ P, 2 ^ b = P := ⟨_, rfl⟩
  rw [hP] at hsh hpw
  obtain ⟨wm, hmr, hmo, hmg⟩ := run_makeSlice_full (P := Try.prog) (w := w) w.heap.size 41 3 i2 (.int .i64 0) 1 Try.underlying41 hi2 hv0 hv1 .i64 .i64 P (by omega) (by rw [hv2]; omega) (by omega) (Nat.le_refl _)
  have hbm : Below w.heap.size w wm := (Below.refl _ w).grown hmg (Nat.le_refl _) (by intro k hk; cases hk)
  have hgo : wm.heap[w.heap.size]? = some (.cells ((List.replicate P 0).map iv).toArray 3 (0, 0)) := by
    rw [Nat.mul_one, made_zeros] at hmo
    rcases hmo.2 with ⟨e, _⟩ | ⟨g, cap, cur, e, _, hg, h1, h2, h3, h4⟩
    · cases e
    · cases e
      rw [Nat.mul_one] at h3 h4
      rw [List.take_of_length_le (by rw [Array.length_toList]; omega)] at h4
      rw [hg, ← h4]
  obtain ⟨ve, vo, vm, hX⟩ := hX
  obtain ⟨H, hH⟩ : ∃ H, E.map leaf = H := ⟨_, rfl⟩
  have hH32 : Len32 H := by rw [← hH]; exact leafs_len E
  have hHl : H.length = E.length := by rw [← hH, List.length_map]
  rw [hH] at hX ⊢
  have hXm := hX.below hbm
  have c1 := ce1 hXm.cell
  obtain ⟨oa, oc, rfl, hoc, hon, hor, -⟩ := row_slice2 hX.order
  rw [hHl] at c1
  have hcl : Hid ((countsN H b).length = P) := by show _ = _; rw [← cts_full, cts_len, hP]
  have d1 : decide ((b : Int) < 0) = false := decide_eq_false (by omega)
  have d2 : decide ((16 : Int) < (b : Int)) = false := decide_eq_false (by omega)
  have HX := Lib.hid (And.intro hH32 (And.intro hHl (And.intro hor hP)))
  have HM := Lib.hid (And.intro hgo hbm)
  clear hX hXm hH32 hHl hor hon hmo hmg hgo hbm hP hoc
  go_enter Try.func13, Try.ntmps13
  go_wp2
  rw [hsh]
  clear hsh
  go_loopw [28] (fun i wr => ∃ k : Nat, k ≤ E.length ∧ i = .int .i64 k ∧ Hid (wr.heap[w.heap.size]? = some (.cells ((cts (ordN H) b k).map iv).toArray 3 (0, 0))) ∧ Below w.heap.size w wr) (fun i _ => E.length - (RowKit.intOf i).toNat)
  case atStart => exact ⟨0, by omega, rfl, by show _ = _; rw [cts_zero, HX.out.2.2.2]; exact HM.out.1, HM.out.2⟩
  case round =>
    obtain ⟨k, hk, rfl, HG, hbw⟩ := hrel
    by_cases hlt : k < E.length
    · obtain ⟨p, hp⟩ : ∃ p, (ordN H)[k]? = some p := ⟨_, List.getElem?_eq_getElem (by rw [ordN_length, HX.out.2.1]; exact hlt)⟩
      have hp32 := HX.out.1.ord p (List.mem_of_getElem? hp)
      obtain ⟨sb, so, rfl, hcell⟩ := (HX.out.2.2.1.below hbw) (by
        intro e
        have h1 := flat_fc HX.out.1.ord
        rw [e, ordN_length, HX.out.2.1] at h1
        simp at h1
        omega)
      have hrp : wr.rangeAt sb (so + k * 33) (fc p) := fun j v hj => by
        rw [Nat.add_assoc]
        exact hcell _ v (flat_at HX.out.1.ord hp j v hj)
      obtain ⟨w4, hw4, hb4, hz4, hx4⟩ := al1 wr (fc p).toArray 62
      have hfl : Hid ((fc p).length = 33) := fc_len hp32
      have hfz : Hid ((fc p).toArray.size = 33) := by show _ = _; rw [List.size_toArray, hfl.out]
      obtain ⟨x0, r0, e0, l0⟩ := dest_cons hp32
      obtain ⟨x1, r1, e1, l1⟩ := dest_cons l0
      have q0 := cell_of_heap hx4 (i := 0) (v := .int .u8 (x0.toNat : Int)) (by rw [List.getElem?_toArray]; unfold fc; rw [e0]; rfl)
      have q1 := cell_of_heap hx4 (i := 1) (v := .int .u8 (x1.toNat : Int)) (by rw [List.getElem?_toArray]; unfold fc; rw [e0, e1]; rfl)
      obtain ⟨a, ha⟩ : ∃ a : Nat, x0.toNat = a := ⟨_, rfl⟩
      obtain ⟨c, hc⟩ : ∃ c : Nat, x1.toNat = c := ⟨_, rfl⟩
      have ha256 : a < 256 := by rw [← ha]; exact x0.toNat_lt
      have hc256 : c < 256 := by rw [← hc]; exact x1.toNat_lt
      rw [ha] at q0
      rw [hc] at q1
      have htop : topN p.1 b = (a * 256 + c) / 2 ^ (16 - b) := by unfold topN; rw [e0, e1]; simp [ha, hc]
      obtain ⟨t, ht⟩ : ∃ t, topN p.1 b = t := ⟨_, rfl⟩
      have htl : t < P := by rw [← ht, ← HX.out.2.2.2]; exact topN_lt _ hb
      obtain ⟨cc, g1, g2, g3⟩ := cts_step hp ht (by rw [HX.out.2.2.2]; exact htl)
      have hg4 := below_keep hb4 HG.out
      have q5 := cell_of_heap hg4 (i := t) (v := .int .i64 (cc : Int)) (by rw [List.getElem?_toArray, List.getElem?_map, g1]; rfl)
      have zq5 := fz t hg4
      have hst := heap_set_cells (i := t) (.int .i64 ((cc + 1 : Nat) : Int)) hg4
      rw [List.setIfInBounds_toArray, show (.int .i64 ((cc + 1 : Nat) : Int) : Value) = iv (cc + 1) from rfl, ← List.map_set, ← g3] at hst
      rw [ht] at htop
      have hb4w := hbw.trans (hb4.mono hbw.size)
      have HS := Lib.hid (And.intro hst hb4w)
      have HRP := Lib.hid hrp
      have hor2 := i64_or_nat (a * 256) c (by omega) (by omega)
      rw [or_byte a c hc256] at hor2
      obtain ⟨x, hx⟩ : ∃ x, a * 256 + c = x := ⟨_, rfl⟩
      rw [hx] at hor2 htop
      rw [show ((a * 256 : Nat) : Int) = (a : Int) * 256 by omega] at hor2
      have hdv : (x : Int) / 2 ^ (16 - b) = (t : Int) := by
        have := congrArg (fun n : Nat => (n : Int)) htop
        simpa using this.symm
      have j0 : (0 : Int) ≤ (k : Int) := by omega
      have j1 : (k : Int) < (E.length : Int) := by omega
      have j2 : (0 : Int) ≤ (t : Int) := by omega
      have j3 : (t : Int) < (P : Int) := by omega
      have HT := Lib.hid htop
      clear hp hp32 hcell hrp hx4 e0 e1 l0 l1 ha hc htop ht g1 g3 hg4 hst hb4w hbw hb4 hz4
      go_wp2_with (first
        | (refine wpList_load_mid rfl 62 _ rfl sb (so + k * 33) (by rfl) _ _ HRP.out Try.underlying62 rfl (by rw [hfl.out]; kernel_rfl) ?_)
        | (refine wpList_store_row rfl _ _ _ rfl wr.heap.size (fc p).toArray (by rfl) (by rfl) _ _ (World.alloc_heap_new wr _) (by rw [hfz.out]; kernel_rfl) (by rw [hfz.out]; rfl) (all_oneCell_toArray (fun v hv => fc_one (L := [p]) v (by simpa using hv))) ?_; rw [World.setRow_alloc_new, hw4]))
      go_roundw
      case rel => exact ⟨k + 1, by omega, by go_num, HS.out.1, Chg.below_new HS.out.2 (Chg.set (O := fun x => x = w.heap.size) _ rfl) (fun b e => by rw [e]; exact Nat.le_refl _)⟩
      case measure => simp [RowKit.intOf]; omega
    · have e : k = E.length := by omega
      subst e
      have HB := Lib.hid hbw
      have hfull := cts_full H b
      rw [HX.out.2.1] at hfull
      have hg := HG.out
      rw [hfull] at hg
      have HG2 := Lib.hid hg
      clear hbw hfull hg
      go_wp2
      go_ret2
      refine ⟨_, rfl, ?_, HB.out⟩
      have hl : ((countsN H b).map iv).length = P := by rw [List.length_map, hcl.out]
      refine ⟨by simp, .inr ⟨w.heap.size, P, _, by rw [hcl.out]; rfl, Nat.le_refl _, HG2.out, by rw [hcl.out]; exact Nat.le_refl _, by omega, by rw [List.size_toArray, hl, Nat.mul_one], by rw [List.toList_toArray, Nat.mul_one, List.take_of_length_le (by simp)]⟩⟩

end Go.Proofs.Ytljobojdcnhecaa
