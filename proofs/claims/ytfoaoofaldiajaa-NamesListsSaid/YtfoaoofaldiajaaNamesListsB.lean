/- NamesLists, the walk where there are names of the kind. -/
import Derived.Test.YtfoaoofaldiajaaNamesListsA
namespace Go.Proofs.Ytfoaoofaldiajaa
open Go.RowKit Go.Maps Go.Shelf
attribute [local go_sem] Oper.semAt_some

set_option maxRecDepth 100000 in
set_option maxHeartbeats 40000000 in
theorem namesLists_some (kind leave : Int) (a : Option Addr) (cap : Nat) (L : List (List UInt8)) (HNN : Hid (¬ IsNums kind L [])) (w : World) (hL : L.length ≤ 300) (hnil : a = none → cap = 0) (hrow : RowAt w a (L.map sv)) :
    Calls Try.prog 3 #[.int .i64 kind, .slice a L.length cap, .int .i64 leave] w fun e w' => e = .returned (.bool true) ∧ Below w.heap.size w w' := by
  obtain ⟨i0, hi, hz0, hz1, hz2⟩ := info_parts Try.info9
  refine (callsIn_wide (n := 6)).1 ?_
  refine callsIn_of_wp_marks Try.func3 rfl trivial ?_ rfl
  simp only [Try.ntmps3, List.size_toArray, List.length_cons, List.length_nil, Nat.reduceAdd, Nat.reduceSub, Array.replicate_succ, Array.replicate_zero, List.push_toArray, List.append_toArray, List.nil_append, List.cons_append]
  refine wpIn_wide.2 ?_
  have hq : decide ((300 : Int) < L.length) = false := by simp; omega
  obtain ⟨w0, hw0⟩ : ∃ w0, ((w.alloc (.cells #[.int .i64 kind] 3)).alloc (.cells #[.int .i64 leave] 3)).alloc (.cells #[.bool false] 4) = w0 := ⟨_, rfl⟩
  have hb0 : Below w.heap.size w w0 := by rw [← hw0]; exact (((Below.refl _ _).alloc (Nat.le_refl _) _).alloc (by simp) _).alloc (by simp; omega) _
  have hz : w0.heap.size = w.heap.size + 3 := by rw [← hw0]; simp
  have h3 : Boxed w0 w.heap.size 3 (.int .i64 kind) := by rw [← hw0]; exact ((Boxed.new _ _ _).alloc _).alloc _
  have h5 : Boxed w0 (w.heap.size + 1) 3 (.int .i64 leave) := by rw [← hw0]; have := (Boxed.new (w.alloc (.cells #[.int .i64 kind] 3)) 3 (.int .i64 leave)).alloc (.cells #[.bool false] 4); rwa [World.size_alloc] at this
  have h6 : Boxed w0 (w.heap.size + 1 + 1) 4 (.bool false) := by rw [← hw0]; have := Boxed.new ((w.alloc (.cells #[.int .i64 kind] 3)).alloc (.cells #[.int .i64 leave] 3)) 4 (.bool false); rwa [World.size_alloc, World.size_alloc] at this
  have hLs : ∀ u ∈ L.map sv, u.oneCell' = true := by intro u hu; obtain ⟨_, _, rfl⟩ := List.mem_map.1 hu; rfl
  have HZ := Lib.hid hz; have hz1' : w.heap.size + 3 ≤ w0.heap.size := by omega
  clear hz
  go_wp2_with (at_builtin; refine wpList_append_any _ rfl (.const (.slice none 0 0)) (.tmp 25) 22 rfl w0.heap.size 9 i0 (.string ⟨#[]⟩) 16 Try.underlying22 hi hz0 hz1 hz2 rfl _ 0 [] rfl (World.ownsRow_nil _ _ _ _) a L.length cap (L.map sv) rfl (by simp) hnil ?_ hLs (by unfold maxLen; omega) (by omega) ?_ ?_)
  · exact hrow.below hb0
  · exact Nat.le_refl _
  clear hw0
  intro v1 w1 hown1 hg1
  have hown1 : w1.ownsRow w0.heap.size 9 1 v1 L.length (L.map sv) := by simpa using hown1
  have hb1 : Below w0.heap.size w0 w1 := (Below.refl _ _).grown hg1 (Nat.le_refl _) (by intro k e; cases e)
  have hs1 := hb1.size
  obtain ⟨s1, c1, rfl, _, _⟩ := RowAt.of_owns hown1
  clear hg1
  go_wp2_with (at_builtin; refine wpList_append_own _ rfl (.tmp 26) (.tmp 27) 22 rfl w0.heap.size 9 i0 (.string ⟨#[]⟩) 1 16 Try.underlying22 hi hz0 hz1 hz2 rfl (by decide) _ L.length _ rfl (hown1.alloc _) ⟨w1.heap.size, 0, none⟩ 1 1 [sv markL] rfl rfl (cell_one_new _ _ _) (by simp [sv, Value.oneCell']) (by unfold maxLen; omega) (by omega) (by rw [World.size_alloc]; omega) ?_)
  intro v2 w2 hown2 hg2 _
  have hb2 : Below w0.heap.size w0 w2 := (hb1.alloc hs1 _).grown hg2 (by rw [World.size_alloc]; omega) (fun k e => (hown1.lt k e).1)
  have hs2 := hb2.size
  obtain ⟨gm, cm, rfl⟩ := ownsRow_succ hown2
  have hcm := ownsRow_len_cap hown2
  have hgm := hown2.lt gm rfl
  obtain ⟨sm, cm', hv2, hrm, _⟩ := RowAt.of_owns hown2
  simp only [Value.slice.injEq] at hv2
  obtain ⟨rfl, _, rfl⟩ := hv2
  have hrm0 : RowAt w2 (some ⟨gm, 0, none⟩) (L.map sv) := by have := hrm.take L.length; rwa [List.take_left' (by simp)] at this
  have hmark : w2.cell? ⟨gm, L.length, none⟩ = some (sv markL) := by
    obtain ⟨b, off, e, hc⟩ := hrm (by simp)
    cases e
    have := hc L.length (sv markL) (by simp)
    simpa using this
  clear hg2
  have hl1 := run_slice_hi (P := Try.prog) 22 9 Try.underlying22 Try.sizeOf9 (some (⟨gm, 0, none⟩ : Addr)) (L.length + 1) cm L.length (by omega)
  have r3 := (boxed_below h3 hb2 (by omega))
  have r5 := (boxed_below h5 hb2 (by omega))
  have r6 := (boxed_below h6 hb2 (by omega))
  have k3 := r3.cell
  have cN1 := Numbers_any kind (some ⟨gm, 0, none⟩) cm L w2 (by omega) hrm0
  go_wp2_with fail
  refine cN1.mono ?_
  rintro _ w3 ⟨va, ns, rfl, hna, hra, hb3⟩
  clear cN1
  have hs3 := hb3.size
  have k3 := (boxed_below r3 hb3 (by omega)).cell
  have cN2 := Numbers_any kind (some ⟨gm, 0, none⟩) cm L w3 (by omega) (hrm0.below hb3)
  go_wp2_with fail
  refine cN2.mono ?_
  rintro _ w4 ⟨vb, ns', rfl, hnb, hrb, hb4⟩
  clear cN2
  obtain rfl := hna.unique hnb
  clear hnb
  have hs4 := hb4.size
  have b3 := bthen hb3 hb4
  have k3 := (boxed_below r3 b3 (by omega)).cell
  have hm4 := hrm0.below b3
  have cL := Last_any kind (some ⟨gm, 0, none⟩) cm L w4 (by omega) (by simp) hm4
  obtain ⟨sb, cb, rfl, hb0r, _⟩ := RowAt.of_owns hrb
  obtain ⟨sa, ca, rfl, _, _⟩ := RowAt.of_owns hra
  go_wp2_with fail
  refine cL.mono ?_
  rintro _ w5 ⟨ns2, hn2, rfl, hb5⟩
  clear cL
  obtain rfl := hna.unique hn2
  clear hn2
  obtain ⟨sm, hsm⟩ : ∃ sm : Bool, sm = !ns.isEmpty := ⟨_, rfl⟩
  rw [← hsm]
  have HSM := Lib.hid hsm; clear hsm
  obtain ⟨lx, hlx⟩ : ∃ lx : Int, lx = lastOf ns := ⟨_, rfl⟩
  rw [← hlx]
  have HLX := Lib.hid hlx; clear hlx
  have hs5 := hb5.size
  have b5' := bthen b3 hb5
  have k3 := (boxed_below r3 b5' (by omega)).cell
  have cR := rNumbers_any kind a cap L w5 (by omega) (((hrow.below hb0).below (hb2.mono (Nat.le_refl _))).below b5')
  go_wp2_with fail
  refine cR.mono ?_
  rintro _ w6 ⟨vw, ns3, rfl, hn3, hrw, hb6⟩
  clear cR
  obtain rfl := hna.unique hn3
  clear hn3
  obtain ⟨sw, cw, rfl, hw0r, _⟩ := RowAt.of_owns hrw
  have hs6 := hb6.size
  have b6' := bthen b5' hb6
  have k3 := (boxed_below r3 (b6'.alloc (by omega) (.cells #[.slice sw ns.length cw] 24)) (by omega)).cell
  go_wp2_with fail
  have hb7 := b6'.alloc (by omega) (.cells #[.slice sw ns.length cw] 24)
  have h12 := Boxed.new w6 24 (.slice sw ns.length cw)
  obtain ⟨w7, hw7⟩ : ∃ w7, w6.alloc (.cells #[.slice sw ns.length cw] 24) = w7 := ⟨_, rfl⟩
  have hs7 : w7.heap.size = w6.heap.size + 1 := by rw [← hw7]; simp
  have hb67 : Below w6.heap.size w6 w7 := by rw [← hw7]; exact (Below.refl _ _).alloc (Nat.le_refl _) _
  rw [hw7] at hb7 h12 k3 ⊢
  have HW7 := Lib.hid hw7; clear hw7
  have cE := Each_any kind (some ⟨gm, 0, none⟩) cm L w7 (by omega) (by simp) (hrm0.below hb7)
  refine cE.mono ?_
  rintro _ w8 ⟨ns4, b5, b3, b6, v, a', cap', mb, nn, D, rfl, hE, hb8⟩
  clear cE
  obtain rfl := hna.unique hE.num
  have hs8 := hb8.size
  have hs7' : w6.heap.size + 1 ≤ w7.heap.size := by omega
  have HS7 := Lib.hid hs7; clear hs7
  have q12 := boxed_below h12 hb8 (by omega)
  have k12 := q12.cell
  have B28 : Below w2.heap.size w2 w8 := bthen hb7 hb8
  have k3 := (boxed_below r3 B28 (by omega)).cell
  have hwr8 := (hw0r.below hb67).below hb8
  have har8 : RowAt w8 sa (ns.map (Value.int .i64)) := by
    obtain ⟨_, _, e, h, _⟩ := RowAt.of_owns hra
    simp only [Value.slice.injEq] at e
    obtain ⟨rfl, _, rfl⟩ := e
    exact (((((h.below hb4).below hb5).below hb6).below hb67).below hb8)
  have hnl : ns.length ≤ 300 := Nat.le_trans (IsNums.length_le hna) hL
  have hnf : ∀ (w : World) (f : Fn) (x y : Array Value), (binOp .eql 31 (.func f x y) .nilFunc).run Try.prog w = .ok (.bool false) w := func_nil
  have cS := sameNumbers_any sa sw ca cw ns w8 (by omega) har8 hwr8
  have hnp : ns = [] ∨ ns ≠ [] := Decidable.em _
  have hm8 := hrm0.below B28
  have hl8 : RowAt w8 a (L.map sv) := (hrow.below hb0).below ((hb2.mono (Nat.le_refl _)).trans (B28.mono hs2))
  have hmk8 := (B28.cell (p := ⟨gm, L.length, none⟩) (cell_lt hmark)).trans hmark
  rcases hnp with hne | hne
  case inl => rw [hne] at hna; exact absurd hna HNN.out
  case' inr =>
    have hlen : 0 < ns.length := List.length_pos_iff.2 hne
    obtain rfl : sm = true := by rw [HSM.out]; cases ns <;> simp_all
    obtain ⟨gw, ow, rfl, hlast⟩ := hwr8.at_ (k := ns.length - 1) (by simp; omega)
    have hlast2 : w8.cell? ⟨gw, ow + (ns.length - 1), none⟩ = some (.int .i64 lx) := by
      rw [hlast, HLX.out]; simp only [List.getElem_map]; congr 2
      unfold lastOf; rw [List.getLastD_eq_getLast?, List.getLast?_eq_getElem?, List.getElem?_eq_getElem (by omega)]; rfl
    clear hlast
    have HNE := Lib.hid hne; clear hne
    go_wp2_with fail
    refine cS.mono ?_
    rintro _ w9 ⟨rfl, hb9⟩
    have k12 := (boxed_below q12 hb9 (by omega)).cell
    have hs9 := hb9.size
    have hlast3 := (hb9.cell (p := ⟨gw, ow + (ns.length - 1), none⟩) (cell_lt hlast2)).trans hlast2
    have hi0 : (((ns.length : Int) - 1)).toNat = ns.length - 1 := by omega
    have hi1 : (0:Int) ≤ (ns.length : Int) - 1 := by omega
    have hi2 : decide ((0 : Int) < ns.length) = true := by simp; omega
    go_wp2
    clear hlast3 hi0 hi1 hi2 hlast2 hlen
  all_goals
    go_loopw [14] (fun i wr => ∃ k : Nat, k ≤ L.length ∧ i = .int .i64 k ∧ Below w9.heap.size w9 wr) (fun i _ => L.length - (RowKit.intOf i).toNat)
    case atStart => exact ⟨0, by omega, rfl, Below.refl _ _⟩
    case round =>
      obtain ⟨k, hk, rfl, hbl⟩ := hrel
      by_cases hlt : k < L.length
      · obtain ⟨gb, go, hgeq, hc1⟩ := ((hm8.below hb9).below hbl).at_ (k := k) (by simpa using hlt)
        simp only [Option.some.injEq, Addr.mk.injEq] at hgeq
        obtain ⟨rfl, rfl, _⟩ := hgeq
        obtain ⟨la, lo, rfl, hc2⟩ := ((hl8.below hb9).below hbl).at_ (k := k) (by simpa using hlt)
        simp only [List.getElem_map, sv, Nat.zero_add] at hc1 hc2
        generalize L[k] = l at hc1 hc2
        have hq : (l != l) = false := by simp
        have j0 : (0 : Int) ≤ (k : Int) := by omega
        have j1 : (k : Int) < (L.length : Int) := by omega
        go_wp2
        go_quiet (fail)
        go_wp2
        go_roundw
        case rel => exact ⟨k + 1, by omega, by go_num, below_drewN hbl _⟩
        case measure => simp [RowKit.intOf]; omega
      · obtain rfl : k = L.length := by omega
        have hmk := ((hbl.cell (p := ⟨gm, L.length, none⟩) (cell_lt ((hb9.cell (p := ⟨gm, L.length, none⟩) (cell_lt hmk8)).trans hmk8))).trans (hb9.cell (p := ⟨gm, L.length, none⟩) (cell_lt hmk8))).trans hmk8
        simp only [markL, sv] at hmk
        go_wp2
        have hb8r := bthen hb9 hbl
        have hb2r := bthen B28 hb8r
        have hb3r := bthen (bthen (bthen (bthen (bthen hb4 hb5) hb6) hb67) hb8) hb8r
        have hst : Stays w.heap.size w3.heap.size w8.heap.size w w8 wr := ⟨KpIn.of_below hb8r, KpIn.of_below (hb8r.mono (by omega)), (hb0.trans (hb2.mono (by omega))).trans (hb2r.mono (by omega))⟩
        have hra9 : wr.ownsRow w2.heap.size 2 1 (.slice sa ns.length ca) ns.length (ns.map (Value.int .i64)) := hra.kept (row := none) (Below.grownBy hb3r) (by cases hv : Value.ownBlock _ <;> simp)
        have hrm9 : wr.ownsRow w0.heap.size 9 1 (.slice (some ⟨gm, 0, none⟩) (L.length + 1) cm) (L.length + 1) (L.map sv ++ [sv markL]) := hown2.kept (row := none) (Below.grownBy hb2r) (by cases hv : Value.ownBlock _ <;> simp)
        obtain ⟨wx, hwx⟩ : ∃ wx : World, wx = wr := ⟨_, rfl⟩
        rw [← hwx] at hst hra9 hrm9 ⊢
        clear hwx hmk
        go_loopw [15] (fun i wr => ∃ (k : Nat) (xs : List Value), k ≤ ns.length ∧ i = .int .i64 k ∧ Stays w.heap.size w3.heap.size w8.heap.size w w8 wr ∧ wr.ownsRow w2.heap.size 2 1 (.slice sa ns.length ca) ns.length xs ∧ wr.ownsRow w0.heap.size 9 1 (.slice (some ⟨gm, 0, none⟩) (L.length + 1) cm) (L.length + 1) (L.map sv ++ [sv markL])) (fun i _ => ns.length - (RowKit.intOf i).toNat)
        case atStart => exact ⟨0, _, by omega, rfl, hst, hra9, hrm9⟩
        case round =>
          obtain ⟨k, xs, hk, rfl, hst, hra9, hrm9⟩ := hrel
          by_cases hlt : k < ns.length
          · by_cases hemp : ns = []
            · exfalso; rw [hemp] at hlt; simp at hlt
            all_goals try exact absurd HNE.out hemp
            all_goals
              clear hemp
              obtain ⟨ga, hga, rfl⟩ : ∃ ga, w2.heap.size ≤ ga ∧ sa = some ⟨ga, 0, none⟩ := by
                rcases hra9.2 with ⟨h, _⟩ | ⟨g, c', cur, h, hb, _⟩
                · simp at h; omega
                · simp at h; exact ⟨g, hb, h.1⟩
              obtain ⟨⟨u0, hc0⟩, hf0, hrs⟩ := ownsRow_set hra9 (g := ga) rfl k hlt (.int .i64 (-9))
              have hga3 : ga < w3.heap.size := (hra.lt ga rfl).2
              have j0 : (0 : Int) ≤ (k : Int) := by omega
              have j1 : (k : Int) < (ns.length : Int) := by omega
              have hrm10 := ownsRow_setCell_other hrm9 (a := ⟨ga, k, none⟩) (by simp [Value.ownBlock]; omega) (.int .i64 (-9))
              have hst10 := hst.setCell ⟨ga, k, none⟩ (by show w.heap.size + 3 ≤ ga; omega) hga3 (.int .i64 (-9))
              go_wp2
              go_roundw
              case rel => exact ⟨k + 1, _, by omega, by go_num, hst10, hrs, hrm10⟩
              case measure => simp [RowKit.intOf]; omega
          · obtain rfl : k = ns.length := by omega
            go_wp2
            clear hra9
            obtain ⟨wx, hwx⟩ : ∃ wx : World, wx = wr := ⟨_, rfl⟩
            rw [← hwx] at hst hrm9 ⊢
            clear hwx
            go_loopw [16] (fun i wr => ∃ (k : Nat) (xs : List Value), k ≤ L.length ∧ i = .int .i64 k ∧ Stays w.heap.size w3.heap.size w8.heap.size w w8 wr ∧ wr.ownsRow w0.heap.size 9 1 (.slice (some ⟨gm, 0, none⟩) (L.length + 1) cm) (L.length + 1) xs) (fun i _ => L.length - (RowKit.intOf i).toNat)
            case atStart => exact ⟨0, _, by omega, rfl, hst, hrm9⟩
            case round =>
              obtain ⟨k, xs, hk, rfl, hst, hrm9⟩ := hrel
              by_cases hlt : k < L.length
              · obtain ⟨⟨u0, hc0⟩, hf0, hrs⟩ := ownsRow_set hrm9 (g := gm) rfl k (by omega) (.string ⟨#[103, 111, 110, 101]⟩)
                have hst10 := hst.setCell ⟨gm, k, none⟩ (by show w.heap.size + 3 ≤ gm; omega) (by show gm < _; omega) (.string ⟨#[103, 111, 110, 101]⟩)
                have j0 : (0 : Int) ≤ (k : Int) := by omega
                have j1 : (k : Int) < (L.length : Int) := by omega
                go_wp2
                go_roundw
                case rel => exact ⟨k + 1, _, by omega, by go_num, hst10, hrs⟩
                case measure => simp [RowKit.intOf]; omega
              · obtain rfl : k = L.length := by omega
                go_wp2
                clear hrm9
                have hsw : w8.heap.size ≤ wr.heap.size := hst.k1.1
                refine wp_loop_rounds 3 ?_
                rw [rounds_succ]
                go_wp2_with fail
                obtain ⟨W0, hW0⟩ : ∃ W0, (wr.alloc (.cells #[.int .i64 0] 3)).alloc (.cells #[.int .i64 0] 3) = W0 := ⟨_, rfl⟩
                have hst0 : Stays w.heap.size w3.heap.size w8.heap.size w w8 W0 := by rw [← hW0]; exact (hst.alloc hsw (by omega) _).alloc (by simp; omega) (by simp; omega) _
                have hz0' : W0.heap.size = wr.heap.size + 1 + 1 := by rw [← hW0]; simp
                have ht17 : Boxed W0 wr.heap.size 3 (.int .i64 0) := by rw [← hW0]; exact (Boxed.new _ _ _).alloc _
                have ht18 : Boxed W0 (wr.heap.size + 1) 3 (.int .i64 0) := by rw [← hW0]; have := Boxed.new (wr.alloc (.cells #[.int .i64 0] 3)) 3 (.int .i64 0); rwa [World.size_alloc] at this
                rw [hW0]
                clear hW0
                have hE0 := hE.mono (w' := W0) ⟨hst0.k1.1, fun b l1 l2 => hst0.k1.2 b (by omega) l2⟩
                refine (wpIn_wide (n := 6)).1 ?_
                refine wpIn_rangeFunc_ownF rfl (by omega) (gf := 24) (lb := #[.pointer (some ⟨b5, 0, none⟩), .pointer (some ⟨b3, 0, none⟩), .pointer (some ⟨b6, 0, none⟩)]) rfl trivial (enters_of Try.func24 (by kernel_rfl) rfl)
                  (Each1_stops Fence.wide 5 trivial rfl (by omega) kind L ns _ _ b5 b3 b6 v a' cap' mb nn D W0 hE0 (by omega) (by omega)) (fun h k => h.trans k) (fun W l o o' hl _ _ _ => KpIn.putObj W l o' (by omega)) (Below.refl _ _) (fun _ => rfl)
                  (fun pre W => Stays w.heap.size w3.heap.size w8.heap.size w w8 W ∧ W0.heap.size ≤ W.heap.size ∧ Boxed W wr.heap.size 3 (.int .i64 0) ∧ Boxed W (wr.heap.size + 1) 3 (.int .i64 pre.length) ∧ pre <+: itemsOf kind ns)
                  (fun c pre W => (c = .ret ∧ ¬ pre <+: itemsOf kind ns) ∨ (c = .exit 8 ∧ (pre.length : Int) = leave ∧ Stays w.heap.size w3.heap.size w8.heap.size w w8 W ∧ W0.heap.size ≤ W.heap.size ∧ Boxed W wr.heap.size 3 (.int .i64 0) ∧ Boxed W (wr.heap.size + 1) 3 (.int .i64 pre.length)))
                  ?_ ?_ ?_ ?_ ?_ ?_ ?_ ?_
                case refine_5 => intro l x W K hK; simp only [encs2]; gi_wp2; exact hK
                case refine_3 => exact ⟨hst0, Nat.le_refl _, ht17, ht18, List.nil_prefix⟩
                case refine_1 =>
                  rintro s W W' row ⟨h1, h2, h3, h4, h5⟩ hg hr
                  exact ⟨h1.from hg (by omega) (by omega) (Nat.le_refl _) hr (by omega) (by omega), Nat.le_trans h2 hg.size, boxed_from h3 hg hr, boxed_from h4 hg hr, h5⟩
                case refine_2 =>
                  rintro c s W W' row (h | ⟨h0, h0', h1, h2, h3, h4⟩) hg hr
                  · exact .inl h
                  · exact .inr ⟨h0, h0', h1.from hg (by omega) (by omega) (Nat.le_refl _) hr (by omega) (by omega), Nat.le_trans h2 hg.size, boxed_from h3 hg hr, boxed_from h4 hg hr⟩
                case refine_6 => as_aux_lemma =>
                  rintro l pre x W ⟨g1, g2, g3, g4, g5⟩ hpl
                  have c18 := g4.cell
                  have f18 := g4.frozen
                  have c17 := g3.cell
                  have c12 := (show Boxed W w6.heap.size 24 (.slice _ ns.length cw) from (g1.k1.2 w6.heap.size (by omega) (by omega)).trans q12).cell
                  have c3 := (show Boxed W w.heap.size 3 (.int .i64 kind) from (g1.k2.2 w.heap.size (by omega) (by omega)).trans (boxed_below r3 B28 (by omega))).cell
                  by_cases hemp : ns = []
                  · exfalso; rw [hemp] at hpl; simp at hpl
                  all_goals try exact absurd HNE.out hemp
                  all_goals
                    clear hemp
                    have hwW : RowAt W _ (ns.map (Value.int .i64)) := hwr8.kept fun b hb ⟨off, sp, e⟩ => g1.k1.2 b (by have := (hrw.lt b (by rw [e]; rfl)).1; omega) hb
                    obtain ⟨gx, ox, hgx, hcx⟩ := hwW.at_ (k := pre.length) (by simpa using hpl)
                    simp only [Option.some.injEq, Addr.mk.injEq] at hgx
                    obtain ⟨rfl, rfl, _⟩ := hgx
                    simp only [List.getElem_map] at hcx
                    have hmem : ns[pre.length] ∈ ns := List.getElem_mem hpl
                    obtain ⟨_, lm, _, _, hm2⟩ := (hna.2 _).1 hmem
                    have hmlt := parse_num lm
                    have hitem : itemOf kind ns[pre.length] = (itemsOf kind ns)[pre.length]'(by simpa [itemsOf] using hpl) := by simp [itemsOf]
                    have hpre : ∀ y, (pre ++ [y] <+: itemsOf kind ns) ↔ y = itemOf kind ns[pre.length] := by
                      intro y
                      rw [hitem]
                      constructor
                      · rintro ⟨t, ht⟩
                        have : (itemsOf kind ns)[pre.length]? = some y := by rw [← ht]; simp
                        rw [List.getElem?_eq_getElem (by simpa [itemsOf] using hpl)] at this
                        exact (Option.some.inj this).symm
                      · rintro rfl
                        obtain ⟨t, ht⟩ := g5
                        refine ⟨t.tail, ?_⟩
                        have ht2 : t = (itemsOf kind ns)[pre.length]'(by simpa [itemsOf] using hpl) :: t.tail := by
                          cases t with
                          | nil => exfalso; rw [List.append_nil] at ht; have := congrArg List.length ht; simp [itemsOf] at this; omega
                          | cons z t => simp only [← ht]; simp
                        rw [List.append_assoc, List.singleton_append, ← ht2, ht]
                    unfold itemOf at hpre hitem
                    rw [← hm2] at hpre hcx
                    rw [Int.toNat_natCast] at hpre
                    generalize (parse lm).2 = m at hpre hcx hmlt
                    generalize hnm : refNameL kind m = nm at hpre
                    have cN := fun W => CallsIn.inRound l ((callsIn_wide (n := 3)).2 (rName_any kind m W (by omega)))
                    rw [hnm] at cN
                    have HNM := Lib.hid hnm; clear hnm
                    have HPRE := Lib.hid hpre; clear hpre hitem
                    have z0 : decide ((ns.length : Int) ≤ (pre.length : Int)) = false := by simp; omega
                    have j0 : (0 : Int) ≤ (pre.length : Int) := by omega
                    have j1 : (pre.length : Int) < (ns.length : Int) := by omega
                    obtain ⟨x1, x2⟩ := x
                    simp only [sv]
                    have d18 := cell_regrown c18
                    have d12 := cell_regrown c12
                    have d3 := cell_regrown c3
                    have dcx := cell_regrown hcx
                    have cN' := fun d os => CallsIn.regrown_of (cN (Go.Sort.grow (redrawn W d) os))
                    by_cases e1 : x1 = (m : Int)
                    · by_cases e2 : x2 = nm
                      · subst e1; subst e2
                        have z1 : ((m : Int) != (m : Int)) = false := by simp
                        have z2 : (x2 != x2) = false := by simp
                        have hf12 : (Fence.wide.inRound l).fn 12 := trivial
                        gi_wp2_with fail
                        refine wpIn_region_quiet_belowR rfl (by kernel_rfl) (by kernel_rfl) (by kernel_rfl) ?_
                        repeat (refine wpQuietIn_step asked_wide (fun K hK => ?_); go_simp; first | (refine hK _ ?_; clear hK K) | (apply Exists.intro; refine ⟨fun _ => ?_, hK _ ?_⟩; (exact cN' _ _); clear hK K))
                        refine wpQuietIn_nil ?_
                        intro Wn hbn
                        have n17 := boxed_below g3 hbn g3.lt
                        have n18 := boxed_below g4 hbn g4.lt
                        have n5 := boxed_below (show Boxed W (w.heap.size + 1) 3 (.int .i64 leave) from (g1.k2.2 (w.heap.size + 1) (by omega) (by omega)).trans (boxed_below r5 B28 (by omega))) hbn (by have := g1.k1.1; omega)
                        have c17n := n17.cell
                        have c18n := n18.cell
                        have f18n := n18.frozen
                        have c5n := n5.cell
                        clear d18 d12 d3 dcx c18 c12 c3 hcx f18 c17 z0 z1 z2
                        have hst1 := (g1.below hbn (by have := g1.k1.1; omega) (by have := g1.k1.1; omega)).late ⟨wr.heap.size + 1, 0, none⟩ (by show _ ≤ wr.heap.size + 1; omega) (by show _ ≤ wr.heap.size + 1; omega) (.int .i64 ((pre.length : Int) + 1))
                        have hn17 : Boxed (Wn.setCell ⟨wr.heap.size + 1, 0, none⟩ (.int .i64 ((pre.length : Int) + 1))) wr.heap.size 3 (.int .i64 0) := (Below.heap_setCell _ _ _ _ (by simp)).trans n17
                        have hn18 := Boxed.set (.int .i64 ((pre.length : Int) + 1)) n18
                        have hlen1 : ((pre ++ [((m : Int), x2)]).length : Int) = (pre.length : Int) + 1 := by simp
                        have hsz1 : W0.heap.size ≤ (Wn.setCell ⟨wr.heap.size + 1, 0, none⟩ (.int .i64 ((pre.length : Int) + 1))).heap.size := by have := hbn.size; simp [World.setCell]; omega
                        have hko := (keepsOthers_below hbn).trans (KeepsOthers.setCell Wn ⟨wr.heap.size + 1, 0, none⟩ (.int .i64 ((pre.length : Int) + 1)))
                        have hkp1 : KpIn w7.heap.size w8.heap.size W (Wn.setCell ⟨wr.heap.size + 1, 0, none⟩ (.int .i64 ((pre.length : Int) + 1))) := (KpIn.of_below (hbn.mono (by have := g1.k1.1; omega))).setCell _ (.inr (by show _ ≤ wr.heap.size + 1; omega)) _
                        by_cases elv : (pre.length : Int) + 1 = leave
                        · have zl : (((pre.length : Int) + 1) == leave) = true := by simpa using elv
                          have ELV := Lib.hid elv; clear elv
                          gi_wp2
                          exact ⟨hko, .inr ⟨rfl, hlen1.trans ELV.out, hst1, hsz1, hn17, by rw [hlen1]; exact hn18⟩⟩
                        · have zl : (((pre.length : Int) + 1) == leave) = false := by simpa using elv
                          clear elv
                          gi_wp2
                          exact ⟨hko, hkp1, hst1, hsz1, hn17, by rw [hlen1]; exact hn18, (HPRE.out _).2 rfl⟩
                      · subst e1
                        have z1 : ((m : Int) != (m : Int)) = false := by simp
                        have z2 : (x2 != nm) = true := by simpa using e2
                        have z3 : (x2 == nm) = false := by simpa using e2
                        have HNP : ¬ (pre ++ [((m : Int), x2)] <+: itemsOf kind ns) := fun h => e2 (by have := (HPRE.out _).1 h; simpa using this)
                        clear e2
                        have hf12 : (Fence.wide.inRound l).fn 12 := trivial
                        gi_wp2_with fail
                        refine wpIn_region_quiet_belowR rfl (by kernel_rfl) (by kernel_rfl) (by kernel_rfl) ?_
                        repeat (refine wpQuietIn_step asked_wide (fun K hK => ?_); go_simp; first | (refine hK _ ?_; clear hK K) | (apply Exists.intro; refine ⟨fun _ => ?_, hK _ ?_⟩; (exact cN' _ _); clear hK K))
                        refine wpQuietIn_nil ?_
                        intro Wn hbn
                        have n6 := boxed_below (show Boxed W (w.heap.size + 1 + 1) 4 (.bool false) from (g1.k2.2 (w.heap.size + 1 + 1) (by omega) (by omega)).trans (boxed_below r6 B28 (by omega))) hbn (by have := g1.k1.1; omega)
                        have c6n := n6.cell
                        have f6n := n6.frozen
                        clear d18 d12 d3 dcx c18 c12 c3 hcx f18 c17
                        gi_wp2
                        exact ⟨(keepsOthers_below hbn).trans (KeepsOthers.setCell _ _ _), .inl ⟨rfl, HNP⟩⟩
                    · have z1 : (x1 != (m : Int)) = true := by simpa using e1
                      have z3 : (x1 == (m : Int)) = false := by simpa using e1
                      have HNP : ¬ (pre ++ [(x1, x2)] <+: itemsOf kind ns) := fun h => e1 (by have := (HPRE.out _).1 h; simp at this; exact this.1)
                      clear e1
                      have hf12 : (Fence.wide.inRound l).fn 12 := trivial
                      gi_wp2_with fail
                      refine wpIn_region_quiet_belowR rfl (by kernel_rfl) (by kernel_rfl) (by kernel_rfl) ?_
                      repeat (refine wpQuietIn_step asked_wide (fun K hK => ?_); go_simp; first | (refine hK _ ?_; clear hK K) | (apply Exists.intro; refine ⟨fun _ => ?_, hK _ ?_⟩; (exact cN' _ _); clear hK K))
                      refine wpQuietIn_nil ?_
                      intro Wn hbn
                      have n6 := boxed_below (show Boxed W (w.heap.size + 1 + 1) 4 (.bool false) from (g1.k2.2 (w.heap.size + 1 + 1) (by omega) (by omega)).trans (boxed_below r6 B28 (by omega))) hbn (by have := g1.k1.1; omega)
                      have c6n := n6.cell
                      have f6n := n6.frozen
                      clear d18 d12 d3 dcx c18 c12 c3 hcx f18 c17
                      gi_wp2
                      exact ⟨(keepsOthers_below hbn).trans (KeepsOthers.setCell _ _ _), .inl ⟨rfl, HNP⟩⟩
                case refine_7 =>
                  rintro Dd xs W hD rfl ⟨h1, h2, h3, h4, h5⟩ hK
                  have hil : (itemsOf kind ns).length = ns.length := by simp [itemsOf]
                  rw [hil] at h4
                  have c17 := h3.cell
                  have c18 := h4.cell
                  have c12 := (show Boxed W w6.heap.size 24 (.slice _ ns.length cw) from (h1.k1.2 w6.heap.size (by omega) (by omega)).trans q12).cell
                  have z1 : ((ns.length : Int) != (ns.length : Int)) = false := by simp
                  go_wp2_with fail
                  clear z1
                  clear h3 h4 h5
                  rw [rounds_succ]
                  go_wp2_with fail
                  obtain ⟨W1, hW1⟩ : ∃ W1, (W.alloc (.cells #[.int .i64 1] 3)).alloc (.cells #[.int .i64 0] 3) = W1 := ⟨_, rfl⟩
                  have hst1 : Stays w.heap.size w3.heap.size w8.heap.size w w8 W1 := by rw [← hW1]; exact (h1.alloc (by omega) (by omega) _).alloc (by simp; omega) (by simp; omega) _
                  have hz1' : W1.heap.size = W.heap.size + 1 + 1 := by rw [← hW1]; simp
                  have ht17 : Boxed W1 W.heap.size 3 (.int .i64 1) := by rw [← hW1]; exact (Boxed.new _ _ _).alloc _
                  have ht18 : Boxed W1 (W.heap.size + 1) 3 (.int .i64 0) := by rw [← hW1]; have := Boxed.new (W.alloc (.cells #[.int .i64 1] 3)) 3 (.int .i64 0); rwa [World.size_alloc] at this
                  have hDlt : Dd < W.heap.size := (Array.getElem?_eq_some_iff.1 hK).1
                  have hK1 : W1.heap[Dd]? = some (.deferred (some [])) := by rw [← hW1]; exact (Below.heap_alloc _ _ _ (by simp; omega)).trans ((Below.heap_alloc _ _ _ hDlt).trans hK)
                  rw [hW1]
                  clear hW1
                  have hE1 := hE.mono (w' := W1) ⟨hst1.k1.1, fun b l1 l2 => hst1.k1.2 b (by omega) l2⟩
                  refine (wpIn_wide (n := 6)).1 ?_
                  refine wpIn_rangeFunc_ownF rfl (by omega) (gf := 24) (lb := #[.pointer (some ⟨b5, 0, none⟩), .pointer (some ⟨b3, 0, none⟩), .pointer (some ⟨b6, 0, none⟩)]) rfl trivial (enters_of Try.func24 (by kernel_rfl) rfl)
                    (Each1_stops Fence.wide 5 trivial rfl (by omega) kind L ns _ _ b5 b3 b6 v a' cap' mb nn D W1 hE1 (by omega) (by omega)) (fun h k => h.trans k) (fun W l o o' hl _ _ _ => KpIn.putObj W l o' (by omega)) (Below.refl _ _) (fun _ => rfl)
                    (fun pre W' => Stays w.heap.size w3.heap.size w8.heap.size w w8 W' ∧ W1.heap.size ≤ W'.heap.size ∧ Boxed W' W.heap.size 3 (.int .i64 1) ∧ Boxed W' (W.heap.size + 1) 3 (.int .i64 pre.length) ∧ pre <+: itemsOf kind ns ∧ W'.heap[Dd]? = some (.deferred (some [])))
                    (fun c pre W' => c = .ret ∧ ¬ pre <+: itemsOf kind ns)
                    ?_ ?_ ?_ ?_ ?_ ?_ ?_ ?_
                  case refine_5 => intro l x W K hK; simp only [encs2]; gi_wp2; exact hK
                  case refine_3 => exact ⟨hst1, Nat.le_refl _, ht17, ht18, List.nil_prefix, hK1⟩
                  case refine_1 =>
                    rintro s Wa W' row ⟨h1, h2, h3, h4, h5, h6⟩ hg hr
                    refine ⟨h1.from hg (by omega) (by omega) (Nat.le_refl _) hr (by omega) (by omega), Nat.le_trans h2 hg.size, boxed_from h3 hg hr, boxed_from h4 hg hr, h5, (hg.block Dd (by omega) ?_).trans h6⟩
                    intro e; have := (hr Dd e.symm).1; omega
                  case refine_2 => exact fun c s Wa W' row h _ _ => h
                  case refine_8 =>
                    rintro D2 c pre W' _ hSp ⟨_, h⟩ _
                    exact absurd hSp h
                  case refine_6 => as_aux_lemma =>
                    rintro l pre x Wb ⟨g1, g2, g3, g4, g5, gK⟩ hpl
                    have c18 := g4.cell
                    have f18 := g4.frozen
                    have c17 := g3.cell
                    have c12 := (show Boxed Wb w6.heap.size 24 (.slice _ ns.length cw) from (g1.k1.2 w6.heap.size (by omega) (by omega)).trans q12).cell
                    have c3 := (show Boxed Wb w.heap.size 3 (.int .i64 kind) from (g1.k2.2 w.heap.size (by omega) (by omega)).trans (boxed_below r3 B28 (by omega))).cell
                    by_cases hemp : ns = []
                    · exfalso; rw [hemp] at hpl; simp at hpl
                    all_goals try exact absurd HNE.out hemp
                    all_goals
                      clear hemp
                      have hwW : RowAt Wb _ (ns.map (Value.int .i64)) := hwr8.kept fun b hb ⟨off, sp, e⟩ => g1.k1.2 b (by have := (hrw.lt b (by rw [e]; rfl)).1; omega) hb
                      obtain ⟨gx, ox, hgx, hcx⟩ := hwW.at_ (k := pre.length) (by simpa using hpl)
                      simp only [Option.some.injEq, Addr.mk.injEq] at hgx
                      obtain ⟨rfl, rfl, _⟩ := hgx
                      simp only [List.getElem_map] at hcx
                      have hmem : ns[pre.length] ∈ ns := List.getElem_mem hpl
                      obtain ⟨_, lm, _, _, hm2⟩ := (hna.2 _).1 hmem
                      have hmlt := parse_num lm
                      have hitem : itemOf kind ns[pre.length] = (itemsOf kind ns)[pre.length]'(by simpa [itemsOf] using hpl) := by simp [itemsOf]
                      have hpre : ∀ y, (pre ++ [y] <+: itemsOf kind ns) ↔ y = itemOf kind ns[pre.length] := by
                        intro y
                        rw [hitem]
                        constructor
                        · rintro ⟨t, ht⟩
                          have : (itemsOf kind ns)[pre.length]? = some y := by rw [← ht]; simp
                          rw [List.getElem?_eq_getElem (by simpa [itemsOf] using hpl)] at this
                          exact (Option.some.inj this).symm
                        · rintro rfl
                          obtain ⟨t, ht⟩ := g5
                          refine ⟨t.tail, ?_⟩
                          have ht2 : t = (itemsOf kind ns)[pre.length]'(by simpa [itemsOf] using hpl) :: t.tail := by
                            cases t with
                            | nil => exfalso; rw [List.append_nil] at ht; have := congrArg List.length ht; simp [itemsOf] at this; omega
                            | cons z t => simp only [← ht]; simp
                          rw [List.append_assoc, List.singleton_append, ← ht2, ht]
                      unfold itemOf at hpre hitem
                      rw [← hm2] at hpre hcx
                      rw [Int.toNat_natCast] at hpre
                      generalize (parse lm).2 = m at hpre hcx hmlt
                      generalize hnm : refNameL kind m = nm at hpre
                      have cN := fun Wb => CallsIn.inRound l ((callsIn_wide (n := 3)).2 (rName_any kind m Wb (by omega)))
                      rw [hnm] at cN
                      have HNM := Lib.hid hnm; clear hnm
                      have HPRE := Lib.hid hpre; clear hpre hitem
                      have z0 : decide ((ns.length : Int) ≤ (pre.length : Int)) = false := by simp; omega
                      have j0 : (0 : Int) ≤ (pre.length : Int) := by omega
                      have j1 : (pre.length : Int) < (ns.length : Int) := by omega
                      obtain ⟨x1, x2⟩ := x
                      simp only [sv]
                      have d18 := cell_regrown c18
                      have d12 := cell_regrown c12
                      have d3 := cell_regrown c3
                      have dcx := cell_regrown hcx
                      have cN' := fun d os => CallsIn.regrown_of (cN (Go.Sort.grow (redrawn Wb d) os))
                      by_cases e1 : x1 = (m : Int)
                      · by_cases e2 : x2 = nm
                        · subst e1; subst e2
                          have z1 : ((m : Int) != (m : Int)) = false := by simp
                          have z2 : (x2 != x2) = false := by simp
                          have hf12 : (Fence.wide.inRound l).fn 12 := trivial
                          gi_wp2_with fail
                          refine wpIn_region_quiet_belowR rfl (by kernel_rfl) (by kernel_rfl) (by kernel_rfl) ?_
                          repeat (refine wpQuietIn_step asked_wide (fun K hK => ?_); go_simp; first | (refine hK _ ?_; clear hK K) | (apply Exists.intro; refine ⟨fun _ => ?_, hK _ ?_⟩; (exact cN' _ _); clear hK K))
                          refine wpQuietIn_nil ?_
                          intro Wn hbn
                          have n17 := boxed_below g3 hbn g3.lt
                          have n18 := boxed_below g4 hbn g4.lt
                          have n5 := boxed_below (show Boxed Wb (w.heap.size + 1) 3 (.int .i64 leave) from (g1.k2.2 (w.heap.size + 1) (by omega) (by omega)).trans (boxed_below r5 B28 (by omega))) hbn (by have := g1.k1.1; omega)
                          have c17n := n17.cell
                          have c18n := n18.cell
                          have f18n := n18.frozen
                          have c5n := n5.cell
                          clear d18 d12 d3 dcx c18 c12 c3 hcx f18 c17 z0 z1 z2
                          have hst2 := (g1.below hbn (by have := g1.k1.1; omega) (by have := g1.k1.1; omega)).late ⟨W.heap.size + 1, 0, none⟩ (by show _ ≤ W.heap.size + 1; omega) (by show _ ≤ W.heap.size + 1; omega) (.int .i64 ((pre.length : Int) + 1))
                          have hn17 : Boxed (Wn.setCell ⟨W.heap.size + 1, 0, none⟩ (.int .i64 ((pre.length : Int) + 1))) W.heap.size 3 (.int .i64 1) := (Below.heap_setCell _ _ _ _ (by simp)).trans n17
                          have hn18 := Boxed.set (.int .i64 ((pre.length : Int) + 1)) n18
                          have hlen1 : ((pre ++ [((m : Int), x2)]).length : Int) = (pre.length : Int) + 1 := by simp
                          have hsz1 : W1.heap.size ≤ (Wn.setCell ⟨W.heap.size + 1, 0, none⟩ (.int .i64 ((pre.length : Int) + 1))).heap.size := by have := hbn.size; simp [World.setCell]; omega
                          have hko := (keepsOthers_below hbn).trans (KeepsOthers.setCell Wn ⟨W.heap.size + 1, 0, none⟩ (.int .i64 ((pre.length : Int) + 1)))
                          have hkp1 : KpIn w7.heap.size w8.heap.size Wb (Wn.setCell ⟨W.heap.size + 1, 0, none⟩ (.int .i64 ((pre.length : Int) + 1))) := (KpIn.of_below (hbn.mono (by have := g1.k1.1; omega))).setCell _ (.inr (by show _ ≤ W.heap.size + 1; omega)) _
                          have hKn : (Wn.setCell ⟨W.heap.size + 1, 0, none⟩ (.int .i64 ((pre.length : Int) + 1))).heap[Dd]? = some (.deferred (some [])) := (Below.heap_setCell _ _ _ _ (by show Dd ≠ W.heap.size + 1; omega)).trans ((hbn.block Dd (by have := g1.k1.1; omega)).trans gK)
                          gi_wp2
                          exact ⟨hko, hkp1, hst2, hsz1, hn17, by rw [hlen1]; exact hn18, (HPRE.out _).2 rfl, hKn⟩
                        · subst e1
                          have z1 : ((m : Int) != (m : Int)) = false := by simp
                          have z2 : (x2 != nm) = true := by simpa using e2
                          have z3 : (x2 == nm) = false := by simpa using e2
                          have HNP : ¬ (pre ++ [((m : Int), x2)] <+: itemsOf kind ns) := fun h => e2 (by have := (HPRE.out _).1 h; simpa using this)
                          clear e2
                          have hf12 : (Fence.wide.inRound l).fn 12 := trivial
                          gi_wp2_with fail
                          refine wpIn_region_quiet_belowR rfl (by kernel_rfl) (by kernel_rfl) (by kernel_rfl) ?_
                          repeat (refine wpQuietIn_step asked_wide (fun K hK => ?_); go_simp; first | (refine hK _ ?_; clear hK K) | (apply Exists.intro; refine ⟨fun _ => ?_, hK _ ?_⟩; (exact cN' _ _); clear hK K))
                          refine wpQuietIn_nil ?_
                          intro Wn hbn
                          have n6 := boxed_below (show Boxed Wb (w.heap.size + 1 + 1) 4 (.bool false) from (g1.k2.2 (w.heap.size + 1 + 1) (by omega) (by omega)).trans (boxed_below r6 B28 (by omega))) hbn (by have := g1.k1.1; omega)
                          have c6n := n6.cell
                          have f6n := n6.frozen
                          clear d18 d12 d3 dcx c18 c12 c3 hcx f18 c17
                          gi_wp2
                          exact ⟨(keepsOthers_below hbn).trans (KeepsOthers.setCell _ _ _), ⟨rfl, HNP⟩⟩
                      · have z1 : (x1 != (m : Int)) = true := by simpa using e1
                        have z3 : (x1 == (m : Int)) = false := by simpa using e1
                        have HNP : ¬ (pre ++ [(x1, x2)] <+: itemsOf kind ns) := fun h => e1 (by have := (HPRE.out _).1 h; simp at this; exact this.1)
                        clear e1
                        have hf12 : (Fence.wide.inRound l).fn 12 := trivial
                        gi_wp2_with fail
                        refine wpIn_region_quiet_belowR rfl (by kernel_rfl) (by kernel_rfl) (by kernel_rfl) ?_
                        repeat (refine wpQuietIn_step asked_wide (fun K hK => ?_); go_simp; first | (refine hK _ ?_; clear hK K) | (apply Exists.intro; refine ⟨fun _ => ?_, hK _ ?_⟩; (exact cN' _ _); clear hK K))
                        refine wpQuietIn_nil ?_
                        intro Wn hbn
                        have n6 := boxed_below (show Boxed Wb (w.heap.size + 1 + 1) 4 (.bool false) from (g1.k2.2 (w.heap.size + 1 + 1) (by omega) (by omega)).trans (boxed_below r6 B28 (by omega))) hbn (by have := g1.k1.1; omega)
                        have c6n := n6.cell
                        have f6n := n6.frozen
                        clear d18 d12 d3 dcx c18 c12 c3 hcx f18 c17
                        gi_wp2
                        exact ⟨(keepsOthers_below hbn).trans (KeepsOthers.setCell _ _ _), ⟨rfl, HNP⟩⟩
                  case refine_7 =>
                    rintro D2 xs Wa hD2 rfl ⟨h1, h2, h3, h4, h5, h6⟩ hK2
                    have hil2 : (itemsOf kind ns).length = ns.length := by simp [itemsOf]
                    rw [hil2] at h4
                    have c17' := h3.cell
                    have c18' := h4.cell
                    have c12' := (show Boxed Wa w6.heap.size 24 (.slice _ ns.length cw) from (h1.k1.2 w6.heap.size (by omega) (by omega)).trans q12).cell
                    clear c17 c18 c12
                    have z1 : ((ns.length : Int) != (ns.length : Int)) = false := by simp
                    have hsta := h1.alloc (by have := h1.k1.1; omega) (by have := h1.k1.1; omega) (.cells #[.int .i64 2] 3)
                    have c12'' := (show Boxed (Wa.alloc (.cells #[.int .i64 2] 3)) w6.heap.size 24 (.slice _ ns.length cw) from (hsta.k1.2 w6.heap.size (by omega) (by omega)).trans q12).cell
                    have rW : RowAt (Wa.alloc (.cells #[.int .i64 2] 3)) _ (ns.map (Value.int .i64)) := hwr8.kept fun b hb ⟨off, sp, e⟩ => hsta.k1.2 b (by have := (hrw.lt b (by rw [e]; rfl)).1; omega) hb
                    have rB8 : RowAt w8 sb (ns.map (Value.int .i64)) := (((hb0r.below hb5).below hb6).below hb67).below hb8
                    have rB : RowAt (Wa.alloc (.cells #[.int .i64 2] 3)) sb (ns.map (Value.int .i64)) := rB8.kept fun b hb ⟨off, sp, e⟩ => hsta.k1.2 b (by have := (hrb.lt b (by rw [e]; rfl)).1; omega) hb
                    have cS2 := sameNumbers_any sb _ cb cw ns _ (by omega) rB rW
                    go_wp2_with fail
                    rw [rounds_succ]
                    go_wp2_with fail
                    refine cS2.mono ?_
                    rintro _ wf ⟨rfl, hbf⟩
                    go_wp2_with fail
                    refine (known_any _).mono ?_
                    rintro _ wg ⟨rfl, hbg⟩
                    have hbfg := bthen hbf hbg
                    have hszA : Wa.heap.size + 1 ≤ wg.heap.size := by have := hbfg.size; rwa [World.size_alloc] at this
                    have k6 : Boxed wg (w.heap.size + 1 + 1) 4 (.bool false) := boxed_below ((hsta.k2.2 (w.heap.size + 1 + 1) (by omega) (by omega)).trans (boxed_below r6 B28 (by omega))) hbfg (by rw [World.size_alloc]; have := h1.k1.1; omega)
                    have c6g := k6.cell
                    have f6g := k6.frozen
                    have hD2lt : D2 < Wa.heap.size := (Array.getElem?_eq_some_iff.1 hK2).1
                    have hK2g : (wg.setCell ⟨w.heap.size + 1 + 1, 0, none⟩ (.bool true)).heap[D2]? = some (.deferred (some [])) := (Below.heap_setCell _ _ _ _ (by show D2 ≠ w.heap.size + 1 + 1; omega)).trans ((hbfg.block D2 (by rw [World.size_alloc]; omega)).trans ((Below.heap_alloc _ _ _ hD2lt).trans hK2))
                    have hK1g : (wg.setCell ⟨w.heap.size + 1 + 1, 0, none⟩ (.bool true)).heap[Dd]? = some (.deferred (some [])) := (Below.heap_setCell _ _ _ _ (by show Dd ≠ w.heap.size + 1 + 1; omega)).trans ((hbfg.block Dd (by rw [World.size_alloc]; omega)).trans ((Below.heap_alloc _ _ _ (by omega)).trans h6))
                    have kset := Boxed.set (.bool true) k6
                    have hbelg : Below w.heap.size w (wg.setCell ⟨w.heap.size + 1 + 1, 0, none⟩ (.bool true)) := (hsta.bel.trans (hbfg.mono (by rw [World.size_alloc]; have := h1.k1.1; omega))).setCell (p := ⟨w.heap.size + 1 + 1, 0, none⟩) (by show w.heap.size ≤ w.heap.size + 1 + 1; omega) _
                    go_wp2
                    generalize hWz : wg.setCell ⟨w.heap.size + 1 + 1, 0, none⟩ (.bool true) = wz at *
                    refine ⟨by simp, .inl ⟨D2, _, rfl, run_takeDeferred hK2g, ⟨by simp, .inl ⟨Dd, _, rfl, run_takeDeferred ((World.putObj_heap_other (by omega)).trans hK1g), ?_⟩⟩⟩⟩
                    have hcz : ((wz.putObj D2 (.deferred none)).putObj Dd (.deferred none)).cell? ⟨w.heap.size + 1 + 1, 0, none⟩ = some (.bool true) := by
                      have e : ((wz.putObj D2 (.deferred none)).putObj Dd (.deferred none)).heap[w.heap.size + 1 + 1]? = wz.heap[w.heap.size + 1 + 1]? := (World.putObj_heap_other (by omega)).trans (World.putObj_heap_other (by omega))
                      exact (World.cell?_of_block (a := ⟨w.heap.size + 1 + 1, 0, none⟩) e).trans kset.cell
                    have hbz : Below w.heap.size w ((wz.putObj D2 (.deferred none)).putObj Dd (.deferred none)) := hbelg.trans ⟨rfl, rfl, rfl, by simp, fun b hb => (World.putObj_heap_other (by omega)).trans (World.putObj_heap_other (by omega))⟩
                    exact ⟨.bool true, by simp [results, Try.results3, go_sem, hcz], rfl, hbz⟩
                case refine_8 =>
                  rintro Dd c pre W hD hSp h hK
                  rcases h with ⟨_, h⟩ | ⟨rfl, hlv, h1, h2, h3, h4⟩
                  · exact absurd hSp h
                  have c17 := h3.cell
                  have c18 := h4.cell
                  have c5' := (show Boxed W (w.heap.size + 1) 3 (.int .i64 leave) from (h1.k2.2 (w.heap.size + 1) (by omega) (by omega)).trans (boxed_below r5 B28 (by omega))).cell
                  have c12 := (show Boxed W w6.heap.size 24 (.slice _ ns.length cw) from (h1.k1.2 w6.heap.size (by omega) (by omega)).trans q12).cell
                  have z1 : ((pre.length : Int) != leave) = false := by simpa using hlv
                  have HLV := Lib.hid hlv; clear hlv
                  refine wpIn_wide.2 ?_
                  obtain ⟨bq, hbq⟩ : ∃ bq : Bool, ((pre.length : Int) != (ns.length : Int)) = bq := ⟨_, rfl⟩
                  cases bq
                  all_goals
                    go_wp2_with fail
                    clear z1 c5' hbq
                    clear h3 h4
                    rw [rounds_succ]
                    go_wp2_with fail
                    obtain ⟨W1, hW1⟩ : ∃ W1, (W.alloc (.cells #[.int .i64 1] 3)).alloc (.cells #[.int .i64 0] 3) = W1 := ⟨_, rfl⟩
                    have hst1 : Stays w.heap.size w3.heap.size w8.heap.size w w8 W1 := by rw [← hW1]; exact (h1.alloc (by omega) (by omega) _).alloc (by simp; omega) (by simp; omega) _
                    have hz1' : W1.heap.size = W.heap.size + 1 + 1 := by rw [← hW1]; simp
                    have ht17 : Boxed W1 W.heap.size 3 (.int .i64 1) := by rw [← hW1]; exact (Boxed.new _ _ _).alloc _
                    have ht18 : Boxed W1 (W.heap.size + 1) 3 (.int .i64 0) := by rw [← hW1]; have := Boxed.new (W.alloc (.cells #[.int .i64 1] 3)) 3 (.int .i64 0); rwa [World.size_alloc] at this
                    have hDlt : Dd < W.heap.size := (Array.getElem?_eq_some_iff.1 hK).1
                    have hK1 : W1.heap[Dd]? = some (.deferred (some [])) := by rw [← hW1]; exact (Below.heap_alloc _ _ _ (by simp; omega)).trans ((Below.heap_alloc _ _ _ hDlt).trans hK)
                    rw [hW1]
                    clear hW1
                    have hE1 := hE.mono (w' := W1) ⟨hst1.k1.1, fun b l1 l2 => hst1.k1.2 b (by omega) l2⟩
                    refine (wpIn_wide (n := 6)).1 ?_
                    refine wpIn_rangeFunc_ownF rfl (by omega) (gf := 24) (lb := #[.pointer (some ⟨b5, 0, none⟩), .pointer (some ⟨b3, 0, none⟩), .pointer (some ⟨b6, 0, none⟩)]) rfl trivial (enters_of Try.func24 (by kernel_rfl) rfl)
                      (Each1_stops Fence.wide 5 trivial rfl (by omega) kind L ns _ _ b5 b3 b6 v a' cap' mb nn D W1 hE1 (by omega) (by omega)) (fun h k => h.trans k) (fun W l o o' hl _ _ _ => KpIn.putObj W l o' (by omega)) (Below.refl _ _) (fun _ => rfl)
                      (fun pre W' => Stays w.heap.size w3.heap.size w8.heap.size w w8 W' ∧ W1.heap.size ≤ W'.heap.size ∧ Boxed W' W.heap.size 3 (.int .i64 1) ∧ Boxed W' (W.heap.size + 1) 3 (.int .i64 pre.length) ∧ pre <+: itemsOf kind ns ∧ W'.heap[Dd]? = some (.deferred (some [])))
                      (fun c pre W' => c = .ret ∧ ¬ pre <+: itemsOf kind ns)
                      ?_ ?_ ?_ ?_ ?_ ?_ ?_ ?_
                    case refine_5 => intro l x W K hK; simp only [encs2]; gi_wp2; exact hK
                    case refine_3 => exact ⟨hst1, Nat.le_refl _, ht17, ht18, List.nil_prefix, hK1⟩
                    case refine_1 =>
                      rintro s Wa W' row ⟨h1, h2, h3, h4, h5, h6⟩ hg hr
                      refine ⟨h1.from hg (by omega) (by omega) (Nat.le_refl _) hr (by omega) (by omega), Nat.le_trans h2 hg.size, boxed_from h3 hg hr, boxed_from h4 hg hr, h5, (hg.block Dd (by omega) ?_).trans h6⟩
                      intro e; have := (hr Dd e.symm).1; omega
                    case refine_2 => exact fun c s Wa W' row h _ _ => h
                    case refine_8 =>
                      rintro D2 c pre W' _ hSp ⟨_, h⟩ _
                      exact absurd hSp h
                    case refine_6 => as_aux_lemma =>
                      rintro l pre x Wb ⟨g1, g2, g3, g4, g5, gK⟩ hpl
                      have c18 := g4.cell
                      have f18 := g4.frozen
                      have c17 := g3.cell
                      have c12 := (show Boxed Wb w6.heap.size 24 (.slice _ ns.length cw) from (g1.k1.2 w6.heap.size (by omega) (by omega)).trans q12).cell
                      have c3 := (show Boxed Wb w.heap.size 3 (.int .i64 kind) from (g1.k2.2 w.heap.size (by omega) (by omega)).trans (boxed_below r3 B28 (by omega))).cell
                      by_cases hemp : ns = []
                      · exfalso; rw [hemp] at hpl; simp at hpl
                      all_goals try exact absurd HNE.out hemp
                      all_goals
                        clear hemp
                        have hwW : RowAt Wb _ (ns.map (Value.int .i64)) := hwr8.kept fun b hb ⟨off, sp, e⟩ => g1.k1.2 b (by have := (hrw.lt b (by rw [e]; rfl)).1; omega) hb
                        obtain ⟨gx, ox, hgx, hcx⟩ := hwW.at_ (k := pre.length) (by simpa using hpl)
                        simp only [Option.some.injEq, Addr.mk.injEq] at hgx
                        obtain ⟨rfl, rfl, _⟩ := hgx
                        simp only [List.getElem_map] at hcx
                        have hmem : ns[pre.length] ∈ ns := List.getElem_mem hpl
                        obtain ⟨_, lm, _, _, hm2⟩ := (hna.2 _).1 hmem
                        have hmlt := parse_num lm
                        have hitem : itemOf kind ns[pre.length] = (itemsOf kind ns)[pre.length]'(by simpa [itemsOf] using hpl) := by simp [itemsOf]
                        have hpre : ∀ y, (pre ++ [y] <+: itemsOf kind ns) ↔ y = itemOf kind ns[pre.length] := by
                          intro y
                          rw [hitem]
                          constructor
                          · rintro ⟨t, ht⟩
                            have : (itemsOf kind ns)[pre.length]? = some y := by rw [← ht]; simp
                            rw [List.getElem?_eq_getElem (by simpa [itemsOf] using hpl)] at this
                            exact (Option.some.inj this).symm
                          · rintro rfl
                            obtain ⟨t, ht⟩ := g5
                            refine ⟨t.tail, ?_⟩
                            have ht2 : t = (itemsOf kind ns)[pre.length]'(by simpa [itemsOf] using hpl) :: t.tail := by
                              cases t with
                              | nil => exfalso; rw [List.append_nil] at ht; have := congrArg List.length ht; simp [itemsOf] at this; omega
                              | cons z t => simp only [← ht]; simp
                            rw [List.append_assoc, List.singleton_append, ← ht2, ht]
                        unfold itemOf at hpre hitem
                        rw [← hm2] at hpre hcx
                        rw [Int.toNat_natCast] at hpre
                        generalize (parse lm).2 = m at hpre hcx hmlt
                        generalize hnm : refNameL kind m = nm at hpre
                        have cN := fun Wb => CallsIn.inRound l ((callsIn_wide (n := 3)).2 (rName_any kind m Wb (by omega)))
                        rw [hnm] at cN
                        have HNM := Lib.hid hnm; clear hnm
                        have HPRE := Lib.hid hpre; clear hpre hitem
                        have z0 : decide ((ns.length : Int) ≤ (pre.length : Int)) = false := by simp; omega
                        have j0 : (0 : Int) ≤ (pre.length : Int) := by omega
                        have j1 : (pre.length : Int) < (ns.length : Int) := by omega
                        obtain ⟨x1, x2⟩ := x
                        simp only [sv]
                        have d18 := cell_regrown c18
                        have d12 := cell_regrown c12
                        have d3 := cell_regrown c3
                        have dcx := cell_regrown hcx
                        have cN' := fun d os => CallsIn.regrown_of (cN (Go.Sort.grow (redrawn Wb d) os))
                        by_cases e1 : x1 = (m : Int)
                        · by_cases e2 : x2 = nm
                          · subst e1; subst e2
                            have z1 : ((m : Int) != (m : Int)) = false := by simp
                            have z2 : (x2 != x2) = false := by simp
                            have hf12 : (Fence.wide.inRound l).fn 12 := trivial
                            gi_wp2_with fail
                            refine wpIn_region_quiet_belowR rfl (by kernel_rfl) (by kernel_rfl) (by kernel_rfl) ?_
                            repeat (refine wpQuietIn_step asked_wide (fun K hK => ?_); go_simp; first | (refine hK _ ?_; clear hK K) | (apply Exists.intro; refine ⟨fun _ => ?_, hK _ ?_⟩; (exact cN' _ _); clear hK K))
                            refine wpQuietIn_nil ?_
                            intro Wn hbn
                            have n17 := boxed_below g3 hbn g3.lt
                            have n18 := boxed_below g4 hbn g4.lt
                            have n5 := boxed_below (show Boxed Wb (w.heap.size + 1) 3 (.int .i64 leave) from (g1.k2.2 (w.heap.size + 1) (by omega) (by omega)).trans (boxed_below r5 B28 (by omega))) hbn (by have := g1.k1.1; omega)
                            have c17n := n17.cell
                            have c18n := n18.cell
                            have f18n := n18.frozen
                            have c5n := n5.cell
                            clear d18 d12 d3 dcx c18 c12 c3 hcx f18 c17 z0 z1 z2
                            have hst2 := (g1.below hbn (by have := g1.k1.1; omega) (by have := g1.k1.1; omega)).late ⟨W.heap.size + 1, 0, none⟩ (by show _ ≤ W.heap.size + 1; omega) (by show _ ≤ W.heap.size + 1; omega) (.int .i64 ((pre.length : Int) + 1))
                            have hn17 : Boxed (Wn.setCell ⟨W.heap.size + 1, 0, none⟩ (.int .i64 ((pre.length : Int) + 1))) W.heap.size 3 (.int .i64 1) := (Below.heap_setCell _ _ _ _ (by simp)).trans n17
                            have hn18 := Boxed.set (.int .i64 ((pre.length : Int) + 1)) n18
                            have hlen1 : ((pre ++ [((m : Int), x2)]).length : Int) = (pre.length : Int) + 1 := by simp
                            have hsz1 : W1.heap.size ≤ (Wn.setCell ⟨W.heap.size + 1, 0, none⟩ (.int .i64 ((pre.length : Int) + 1))).heap.size := by have := hbn.size; simp [World.setCell]; omega
                            have hko := (keepsOthers_below hbn).trans (KeepsOthers.setCell Wn ⟨W.heap.size + 1, 0, none⟩ (.int .i64 ((pre.length : Int) + 1)))
                            have hkp1 : KpIn w7.heap.size w8.heap.size Wb (Wn.setCell ⟨W.heap.size + 1, 0, none⟩ (.int .i64 ((pre.length : Int) + 1))) := (KpIn.of_below (hbn.mono (by have := g1.k1.1; omega))).setCell _ (.inr (by show _ ≤ W.heap.size + 1; omega)) _
                            have hKn : (Wn.setCell ⟨W.heap.size + 1, 0, none⟩ (.int .i64 ((pre.length : Int) + 1))).heap[Dd]? = some (.deferred (some [])) := (Below.heap_setCell _ _ _ _ (by show Dd ≠ W.heap.size + 1; omega)).trans ((hbn.block Dd (by have := g1.k1.1; omega)).trans gK)
                            gi_wp2
                            exact ⟨hko, hkp1, hst2, hsz1, hn17, by rw [hlen1]; exact hn18, (HPRE.out _).2 rfl, hKn⟩
                          · subst e1
                            have z1 : ((m : Int) != (m : Int)) = false := by simp
                            have z2 : (x2 != nm) = true := by simpa using e2
                            have z3 : (x2 == nm) = false := by simpa using e2
                            have HNP : ¬ (pre ++ [((m : Int), x2)] <+: itemsOf kind ns) := fun h => e2 (by have := (HPRE.out _).1 h; simpa using this)
                            clear e2
                            have hf12 : (Fence.wide.inRound l).fn 12 := trivial
                            gi_wp2_with fail
                            refine wpIn_region_quiet_belowR rfl (by kernel_rfl) (by kernel_rfl) (by kernel_rfl) ?_
                            repeat (refine wpQuietIn_step asked_wide (fun K hK => ?_); go_simp; first | (refine hK _ ?_; clear hK K) | (apply Exists.intro; refine ⟨fun _ => ?_, hK _ ?_⟩; (exact cN' _ _); clear hK K))
                            refine wpQuietIn_nil ?_
                            intro Wn hbn
                            have n6 := boxed_below (show Boxed Wb (w.heap.size + 1 + 1) 4 (.bool false) from (g1.k2.2 (w.heap.size + 1 + 1) (by omega) (by omega)).trans (boxed_below r6 B28 (by omega))) hbn (by have := g1.k1.1; omega)
                            have c6n := n6.cell
                            have f6n := n6.frozen
                            clear d18 d12 d3 dcx c18 c12 c3 hcx f18 c17
                            gi_wp2
                            exact ⟨(keepsOthers_below hbn).trans (KeepsOthers.setCell _ _ _), ⟨rfl, HNP⟩⟩
                        · have z1 : (x1 != (m : Int)) = true := by simpa using e1
                          have z3 : (x1 == (m : Int)) = false := by simpa using e1
                          have HNP : ¬ (pre ++ [(x1, x2)] <+: itemsOf kind ns) := fun h => e1 (by have := (HPRE.out _).1 h; simp at this; exact this.1)
                          clear e1
                          have hf12 : (Fence.wide.inRound l).fn 12 := trivial
                          gi_wp2_with fail
                          refine wpIn_region_quiet_belowR rfl (by kernel_rfl) (by kernel_rfl) (by kernel_rfl) ?_
                          repeat (refine wpQuietIn_step asked_wide (fun K hK => ?_); go_simp; first | (refine hK _ ?_; clear hK K) | (apply Exists.intro; refine ⟨fun _ => ?_, hK _ ?_⟩; (exact cN' _ _); clear hK K))
                          refine wpQuietIn_nil ?_
                          intro Wn hbn
                          have n6 := boxed_below (show Boxed Wb (w.heap.size + 1 + 1) 4 (.bool false) from (g1.k2.2 (w.heap.size + 1 + 1) (by omega) (by omega)).trans (boxed_below r6 B28 (by omega))) hbn (by have := g1.k1.1; omega)
                          have c6n := n6.cell
                          have f6n := n6.frozen
                          clear d18 d12 d3 dcx c18 c12 c3 hcx f18 c17
                          gi_wp2
                          exact ⟨(keepsOthers_below hbn).trans (KeepsOthers.setCell _ _ _), ⟨rfl, HNP⟩⟩
                    case refine_7 =>
                      rintro D2 xs Wa hD2 rfl ⟨h1, h2, h3, h4, h5, h6⟩ hK2
                      have hil2 : (itemsOf kind ns).length = ns.length := by simp [itemsOf]
                      rw [hil2] at h4
                      have c17' := h3.cell
                      have c18' := h4.cell
                      have c12' := (show Boxed Wa w6.heap.size 24 (.slice _ ns.length cw) from (h1.k1.2 w6.heap.size (by omega) (by omega)).trans q12).cell
                      clear c17 c18 c12
                      have z1 : ((ns.length : Int) != (ns.length : Int)) = false := by simp
                      have hsta := h1.alloc (by have := h1.k1.1; omega) (by have := h1.k1.1; omega) (.cells #[.int .i64 2] 3)
                      have c12'' := (show Boxed (Wa.alloc (.cells #[.int .i64 2] 3)) w6.heap.size 24 (.slice _ ns.length cw) from (hsta.k1.2 w6.heap.size (by omega) (by omega)).trans q12).cell
                      have rW : RowAt (Wa.alloc (.cells #[.int .i64 2] 3)) _ (ns.map (Value.int .i64)) := hwr8.kept fun b hb ⟨off, sp, e⟩ => hsta.k1.2 b (by have := (hrw.lt b (by rw [e]; rfl)).1; omega) hb
                      have rB8 : RowAt w8 sb (ns.map (Value.int .i64)) := (((hb0r.below hb5).below hb6).below hb67).below hb8
                      have rB : RowAt (Wa.alloc (.cells #[.int .i64 2] 3)) sb (ns.map (Value.int .i64)) := rB8.kept fun b hb ⟨off, sp, e⟩ => hsta.k1.2 b (by have := (hrb.lt b (by rw [e]; rfl)).1; omega) hb
                      have cS2 := sameNumbers_any sb _ cb cw ns _ (by omega) rB rW
                      go_wp2_with fail
                      rw [rounds_succ]
                      go_wp2_with fail
                      refine cS2.mono ?_
                      rintro _ wf ⟨rfl, hbf⟩
                      go_wp2_with fail
                      refine (known_any _).mono ?_
                      rintro _ wg ⟨rfl, hbg⟩
                      have hbfg := bthen hbf hbg
                      have hszA : Wa.heap.size + 1 ≤ wg.heap.size := by have := hbfg.size; rwa [World.size_alloc] at this
                      have k6 : Boxed wg (w.heap.size + 1 + 1) 4 (.bool false) := boxed_below ((hsta.k2.2 (w.heap.size + 1 + 1) (by omega) (by omega)).trans (boxed_below r6 B28 (by omega))) hbfg (by rw [World.size_alloc]; have := h1.k1.1; omega)
                      have c6g := k6.cell
                      have f6g := k6.frozen
                      have hD2lt : D2 < Wa.heap.size := (Array.getElem?_eq_some_iff.1 hK2).1
                      have hK2g : (wg.setCell ⟨w.heap.size + 1 + 1, 0, none⟩ (.bool true)).heap[D2]? = some (.deferred (some [])) := (Below.heap_setCell _ _ _ _ (by show D2 ≠ w.heap.size + 1 + 1; omega)).trans ((hbfg.block D2 (by rw [World.size_alloc]; omega)).trans ((Below.heap_alloc _ _ _ hD2lt).trans hK2))
                      have hK1g : (wg.setCell ⟨w.heap.size + 1 + 1, 0, none⟩ (.bool true)).heap[Dd]? = some (.deferred (some [])) := (Below.heap_setCell _ _ _ _ (by show Dd ≠ w.heap.size + 1 + 1; omega)).trans ((hbfg.block Dd (by rw [World.size_alloc]; omega)).trans ((Below.heap_alloc _ _ _ (by omega)).trans h6))
                      have kset := Boxed.set (.bool true) k6
                      have hbelg : Below w.heap.size w (wg.setCell ⟨w.heap.size + 1 + 1, 0, none⟩ (.bool true)) := (hsta.bel.trans (hbfg.mono (by rw [World.size_alloc]; have := h1.k1.1; omega))).setCell (p := ⟨w.heap.size + 1 + 1, 0, none⟩) (by show w.heap.size ≤ w.heap.size + 1 + 1; omega) _
                      go_wp2
                      generalize hWz : wg.setCell ⟨w.heap.size + 1 + 1, 0, none⟩ (.bool true) = wz at *
                      refine ⟨by simp, .inl ⟨D2, _, rfl, run_takeDeferred hK2g, ⟨by simp, .inl ⟨Dd, _, rfl, run_takeDeferred ((World.putObj_heap_other (by omega)).trans hK1g), ?_⟩⟩⟩⟩
                      have hcz : ((wz.putObj D2 (.deferred none)).putObj Dd (.deferred none)).cell? ⟨w.heap.size + 1 + 1, 0, none⟩ = some (.bool true) := by
                        have e : ((wz.putObj D2 (.deferred none)).putObj Dd (.deferred none)).heap[w.heap.size + 1 + 1]? = wz.heap[w.heap.size + 1 + 1]? := (World.putObj_heap_other (by omega)).trans (World.putObj_heap_other (by omega))
                        exact (World.cell?_of_block (a := ⟨w.heap.size + 1 + 1, 0, none⟩) e).trans kset.cell
                      have hbz : Below w.heap.size w ((wz.putObj D2 (.deferred none)).putObj Dd (.deferred none)) := hbelg.trans ⟨rfl, rfl, rfl, by simp, fun b hb => (World.putObj_heap_other (by omega)).trans (World.putObj_heap_other (by omega))⟩
                      exact ⟨.bool true, by simp [results, Try.results3, go_sem, hcz], rfl, hbz⟩

end Go.Proofs.Ytfoaoofaldiajaa
