/- Texts of this claim, one behind the other: IaN, IaO, IaP, IaQ. -/
import Derived.Test.YtljobojdcnhecaaFm07
import Derived.Lib.Bytealg
import Derived.WideKeyArr2
import Derived.Maps.Keyed
set_option linter.unusedSimpArgs false
set_option linter.unusedVariables false
set_option maxRecDepth 100000
set_option maxHeartbeats 8000000
namespace Go.Proofs.Ytljobojdcnhecaa
/- Sha, the reference: End, Sum; notaryref08.Leaf. -/
open Go.RowKit Go.Maps

theorem drew_below {w w' : World} (h : Below w.drew.heap.size w.drew w') : Below w.heap.size w w' := ⟨h.os, h.tape, h.output, h.size, h.block⟩
theorem grown_keep {w w' : World} {row : Option Nat} (h : w.grownBy w' row) {b : Nat} {o : Obj} (hb : w.heap[b]? = some o) (hn : row ≠ some b) : w'.heap[b]? = some o := (h.block b (heap_lt hb) hn.symm).trans hb
/-- a slice of a whole array behind a pointer -/
theorem run_sliceAt_all {P : Program} (t : TypeId) (e : TypeId) (n : Nat) (ht : P.underlying t = some (.array n e)) (he : ∀ w, (sizeOf e).run P w = Result.ok 1 w) (g : Nat) (w : World) :
    (Instr.sliceAt t (.pointer (some ⟨g, 0, none⟩)) none none none).run P w = Result.ok (.slice (some ⟨g, 0, none⟩) n n) w := by
  have e1 : P.elem t = e := by simp [Program.elem, ht]
  have e2 : P.arrayLen t = n := by simp [Program.arrayLen, ht]
  rw [run_sliceAt_array_all (t := t) (ht := by rw [e1, e2]; exact ht), e1, e2, he]
  simp [Result.andThen, slicedAt, addr_add]
theorem row_cells {w : World} {b o : Nat} {xs : List Value} (h : RowAt w (some ⟨b, o, none⟩) xs) : ∀ (j : Nat) u, xs[j]? = some u → w.cell? ((⟨b, o, none⟩ : Addr).add j) = some u := fun j u hu => by
  obtain ⟨b1, o1, e1, hc⟩ := h (by intro e; subst e; simp at hu)
  cases e1
  rw [Addr.add_mid]; exact hc j u hu
theorem end_any {w : World} {n : Nat} {rl : List UInt8} {st : List UInt32} {ra : Option Addr} {rc : Nat} (h8 : st.length = 8) (hr : RowAt w ra (rl.map bv)) (hrn : ra = none → rc = 0) {r : Nat} (hrl : rl.length = r) (hrr : r = n % 64) (hbig : n ≤ 1099511626000) :
    Calls Try.prog 52 #[.agg (underV st n (.slice ra r rc))] w fun e w' => e = .returned (hashV ((turns st (rl ++ 128 :: (List.replicate (shaZ n) 0 ++ be8 (8 * n))) ((rl ++ 128 :: (List.replicate (shaZ n) 0 ++ be8 (8 * n))).length / 64)).flatMap be4)) ∧ Below w.heap.size w w' := by
  have hmax : maxLen = 9223372036854775807 := rfl
  obtain ⟨i0, hi, hz0, hz1, hz2⟩ := info_parts Try.info5
  obtain ⟨w2, hw2, hb2, hz2', hxA, hxC⟩ := al2 w (underV st n (.slice ra r rc)) 85 #[.int .u8 0, .int .u8 0, .int .u8 0, .int .u8 0, .int .u8 0, .int .u8 0, .int .u8 0, .int .u8 0, .int .u8 0, .int .u8 0, .int .u8 0, .int .u8 0, .int .u8 0, .int .u8 0, .int .u8 0, .int .u8 0, .int .u8 0, .int .u8 0, .int .u8 0, .int .u8 0, .int .u8 0, .int .u8 0, .int .u8 0, .int .u8 0, .int .u8 0, .int .u8 0, .int .u8 0, .int .u8 0, .int .u8 0, .int .u8 0, .int .u8 0, .int .u8 0] 33
  have c8 := cell_of_heap hxA (underV_get (r := .slice ra r rc) (n := n) h8).1
  have hg2 : w.heap.size + 1 < w2.heap.size := by omega
  have hlit : (w2.alloc (.cells #[.int .u8 128] 5)).ownsRow w2.heap.size 5 1 (.slice (some ⟨w2.heap.size, 0, none⟩) 1 1) 1 ([(128 : UInt8)].map bv) := ownsRow_lit w2 _ #[.int .u8 128] _ 1 1 (Nat.le_refl _) (by omega) rfl
  have HX := Lib.hid (And.intro hb2 (And.intro hxA (And.intro hxC (And.intro (hr.below hb2) (And.intro h8 hlit)))))
  have HR := Lib.hid (And.intro hrl hrr)
  have hr64 : r < 64 := by omega
  clear hb2 hz2' hxA hxC hr hlit hrr hrl
  go_enter Try.func52, Try.ntmps52
  go_wp2
  go_loopw [4] (fun v wr => ∃ z, z ≤ shaZ n ∧ wr.ownsRow w2.heap.size 5 1 v (1 + z) ((128 :: List.replicate z 0).map bv) ∧ Below w2.heap.size w2 wr) (fun v _ => 66 - lenS v)
  case atStart => exact ⟨0, Nat.zero_le _, HX.out.2.2.2.2.2, below_alloc _ _⟩
  case round =>
    obtain ⟨z, hz, hrow, hb⟩ := hrel
    obtain ⟨va, vc, rfl, -, -⟩ := RowAt.of_owns hrow
    have c9 := cell_of_heap (below_keep hb HX.out.2.1) (underV_get (r := .slice ra r rc) (n := n) HX.out.2.2.2.2.1).2
    obtain ⟨q, hq⟩ : ∃ q, (r + (1 + z) + 8) % 64 = q := ⟨_, rfl⟩
    have hz63 : z ≤ 63 := by unfold shaZ at hz; omega
    have e1 : ((r : Int) + (1 + (z : Int)) + 8) % 64 = (q : Int) := by omega
    have e2 : Int.tmod ((r : Int) + (1 + (z : Int)) + 8) 64 = (q : Int) := by rw [Int.tmod_eq_emod_of_nonneg (by omega)]; exact e1
    have HQ := Lib.hid hq
    by_cases hlt : z < shaZ n
    · have hne : ((q : Int) != 0) = true := by have := HR.out.2; unfold shaZ at hlt; simp; omega
      have hone : RowAt (wr.alloc (.cells #[.int .u8 0] 5)) (some ⟨wr.heap.size, 0, none⟩) [bv 0] := RowAt.of_row fun j u hu => cell_of_heap (World.alloc_heap_new wr _) (by
        cases j with
        | zero => simpa [bv] using hu
        | succ j => simp at hu)
      have HO := Lib.hid (And.intro hone (And.intro (row_below hrow (below_alloc wr (.cells #[.int .u8 0] 5))) hb))
      have hs1 : w2.heap.size ≤ (wr.alloc (.cells #[.int .u8 0] 5)).heap.size := by rw [World.size_alloc]; have := hb.size; omega
      clear hq hone hrow hb
      go_wp2_with (at_builtin; refine wpList_append_any _ rfl (.tmp 20) (.tmp 21) 30 rfl w2.heap.size 5 i0 (.int .u8 0) 1 Try.underlying30 hi hz0 hz1 hz2 rfl _ (1 + z) _ rfl HO.out.2.1 (some ⟨wr.heap.size, 0, none⟩) 1 1 [bv 0] rfl rfl (by simp) HO.out.1 (by simp [bv, Value.oneCell']) (by omega) (by omega) hs1 ?_; intro v5 w5 hv5 hg5)
      have H5 := Lib.hid (And.intro hv5 ((HO.out.2.2.trans ((below_alloc wr (.cells #[.int .u8 0] 5)).mono HO.out.2.2.size)).grown hg5 hs1 (fun k hk => (HO.out.2.1.lt k hk).1)))
      clear hv5 hg5
      go_roundw
      case rel => exact ⟨z + 1, by omega, by have := H5.out.1; rw [show (128 :: List.replicate z (0 : UInt8)).map bv ++ [bv 0] = (128 :: List.replicate (z + 1) 0).map bv from by rw [List.replicate_succ']; simp] at this; exact this, H5.out.2⟩
      case measure =>
        obtain ⟨_, _, rfl, -, -⟩ := RowAt.of_owns H5.out.1
        simp [lenS]; omega
    · have hne : ((q : Int) != 0) = false := by have := HR.out.2; unfold shaZ at hlt hz; simp; omega
      obtain rfl : z = shaZ n := by omega
      have hzn : shaZ n ≤ 63 := hz63
      have hg0 : w2.heap.size ≤ wr.heap.size := hb.size
      have hA := below_keep hb HX.out.2.1
      rw [← Array.toArray_toList (xs := underV st n (.slice ra r rc))] at hA
      have HP := Lib.hid (And.intro hA (And.intro hb (And.intro (show (underV st n (.slice ra r rc)).toList.length = 10 from by rw [Array.length_toList, underV_size HX.out.2.2.2.2.1]) (And.intro hrow (below_keep hb HX.out.2.2.1)))))
      have cE := fun w => eight_any (w := w) (8 * n) (by omega)
      rw [show ((8 * n : Nat) : Int) = (n : Int) * 8 from by omega] at cE
      clear hq hrow hb hA
      go_wp2_with fail
      clear hne e1 e2 HQ c9
      refine wp_region_held_drew (S := fun _ => True) (by kernel_rfl) trivial (fun hHeld => ?_)
      refine tk 1 ?_ hHeld (fun w hSw => ?_) ?_; rotate_left
      · go_simp; all_goals (with_reducible rfl)
      (try simp only [Act.put, Zz])
      refine tk 2 ?_ hHeld (fun w hSw => ?_) ?_; rotate_left
      · go_simp; all_goals (with_reducible rfl)
      (try simp only [Act.put, Zz])
      refine wpAnyH_ready (rs := [0, 3]) (by kernel_rfl) (by simp) ?_
      refine AllReadyH.cons rfl (fun K hK => ?_) (AllReadyH.cons rfl (fun K hK => ?_) AllReadyH.nil)
      focus
        refine step_load_mid rfl 85 _ rfl w.heap.size 0 (by rfl) _ _ (range_of_heap (show wr.drew.heap[w.heap.size]? = _ from HP.out.1) (fun j v hj => by rw [Nat.zero_add]; exact hj)) Try.underlying85 rfl (by rw [HP.out.2.2.1]; kernel_rfl) ?_
        refine hK.out _ _ trivial (fun hHeld => ?_)
        clear hK K
        (try simp only [Act.put, Zz])
        refine wpAnyH_ready (rs := [3]) (by kernel_rfl) (by simp) ?_
        refine AllReadyH.cons rfl (fun K hK => ?_) AllReadyH.nil
        go_simp
        ((with_reducible refine (cE _).mono ?_); rintro _ W5 ⟨v5, rfl, hv5, hb5⟩)
        obtain ⟨va5, vc5, rfl, hrow5, -⟩ := RowAt.of_owns hv5
        obtain ⟨b5, o5, rfl, -⟩ := hrow5.at_ (k := 0) (by simp [be8])
        have q5 := below_keep (drew_below hb5) HP.out.1
        refine hK.out _ _ trivial (fun hHeld => ?_)
        clear hK K
        (try simp only [Act.put, Zz])
        refine wpAnyH_ready (rs := [4]) (by kernel_rfl) (by simp) ?_
        refine AllReadyH.cons rfl (fun K hK => ?_) AllReadyH.nil
        refine step_append_lies _ rfl (.tmp 24) (.tmp 26) 30 rfl w2.heap.size 5 i0 (.int .u8 0) 1 1 Try.underlying30 hi hz0 hz1 hz2 rfl (by decide) _ (1 + shaZ n) _ (by rfl) (row_below HP.out.2.2.2.1 (drew_below hb5)) ⟨b5, o5, none⟩ 8 vc5 _ (by rfl) (by simp [be8]) (row_cells hrow5) bytes_one' (by decide) (by omega) (by omega) (Nat.le_trans hg0 hb5.size) _ rfl ?_
        intro g6 cap6 W6 hv6 hg6 _ _
        have q6 : W6.heap[w.heap.size]? = _ := grown_keep hg6 q5 (fun e => by have := (HP.out.2.2.2.1.lt _ e).1; omega)
        refine hK.out _ _ trivial (fun hHeld => ?_)
        clear hK K
        (try simp only [Act.put, Zz])
      rotate_left
      focus
        go_simp
        ((with_reducible refine (cE _).mono ?_); rintro _ W5 ⟨v5, rfl, hv5, hb5⟩)
        obtain ⟨va5, vc5, rfl, hrow5, -⟩ := RowAt.of_owns hv5
        obtain ⟨b5, o5, rfl, -⟩ := hrow5.at_ (k := 0) (by simp [be8])
        have q5 := below_keep (drew_below hb5) HP.out.1
        refine hK.out _ _ trivial (fun hHeld => ?_)
        clear hK K
        (try simp only [Act.put, Zz])
        refine wpAnyH_ready (rs := [0, 4]) (by kernel_rfl) (by simp) ?_
        refine AllReadyH.cons rfl (fun K hK => ?_) (AllReadyH.cons rfl (fun K hK => ?_) AllReadyH.nil)
        focus
          refine step_load_mid rfl 85 _ rfl w.heap.size 0 (by rfl) _ _ (range_of_heap q5 (fun j v hj => by rw [Nat.zero_add]; exact hj)) Try.underlying85 rfl (by rw [HP.out.2.2.1]; kernel_rfl) ?_
          refine hK.out _ _ trivial (fun hHeld => ?_)
          clear hK K
          (try simp only [Act.put, Zz])
          refine wpAnyH_ready (rs := [4]) (by kernel_rfl) (by simp) ?_
          refine AllReadyH.cons rfl (fun K hK => ?_) AllReadyH.nil
          refine step_append_lies _ rfl (.tmp 24) (.tmp 26) 30 rfl w2.heap.size 5 i0 (.int .u8 0) 1 1 Try.underlying30 hi hz0 hz1 hz2 rfl (by decide) _ (1 + shaZ n) _ (by rfl) (row_below HP.out.2.2.2.1 (drew_below hb5)) ⟨b5, o5, none⟩ 8 vc5 _ (by rfl) (by simp [be8]) (row_cells hrow5) bytes_one' (by decide) (by omega) (by omega) (Nat.le_trans hg0 hb5.size) _ rfl ?_
          intro g6 cap6 W6 hv6 hg6 _ _
          have q6 : W6.heap[w.heap.size]? = _ := grown_keep hg6 q5 (fun e => by have := (HP.out.2.2.2.1.lt _ e).1; omega)
          refine hK.out _ _ trivial (fun hHeld => ?_)
          clear hK K
          (try simp only [Act.put, Zz])
        rotate_left
        focus
          refine step_append_lies _ rfl (.tmp 24) (.tmp 26) 30 rfl w2.heap.size 5 i0 (.int .u8 0) 1 1 Try.underlying30 hi hz0 hz1 hz2 rfl (by decide) _ (1 + shaZ n) _ (by rfl) (row_below HP.out.2.2.2.1 (drew_below hb5)) ⟨b5, o5, none⟩ 8 vc5 _ (by rfl) (by simp [be8]) (row_cells hrow5) bytes_one' (by decide) (by omega) (by omega) (Nat.le_trans hg0 hb5.size) _ rfl ?_
          intro g6 cap6 W6 hv6 hg6 _ _
          have q6 : W6.heap[w.heap.size]? = _ := grown_keep hg6 q5 (fun e => by have := (HP.out.2.2.2.1.lt _ e).1; omega)
          refine hK.out _ _ trivial (fun hHeld => ?_)
          clear hK K
          (try simp only [Act.put, Zz])
          refine wpAnyH_ready (rs := [0]) (by kernel_rfl) (by simp) ?_
          refine AllReadyH.cons rfl (fun K hK => ?_) AllReadyH.nil
          refine step_load_mid rfl 85 _ rfl w.heap.size 0 (by rfl) _ _ (range_of_heap q6 (fun j v hj => by rw [Nat.zero_add]; exact hj)) Try.underlying85 rfl (by rw [HP.out.2.2.1]; kernel_rfl) ?_
          refine hK.out _ _ trivial (fun hHeld => ?_)
          clear hK K
          (try simp only [Act.put, Zz])
      all_goals
        obtain ⟨bl, hbl⟩ : ∃ bl, 128 :: (List.replicate (shaZ n) 0 ++ be8 (8 * n)) = bl := ⟨_, rfl⟩
        have hbl1 : bl.length = 1 + shaZ n + 8 := by rw [← hbl]; simp [be8]; omega
        have hb25 : Below w2.heap.size w2 W6 := (HP.out.2.1.trans ((drew_below hb5).mono HP.out.2.1.size)).grown hg6 (Nat.le_trans hg0 hb5.size) (fun k hk => (HP.out.2.2.2.1.lt _ hk).1)
        have hrow6 : RowAt W6 (some ⟨g6, 0, none⟩) (bl.map bv) := by
          obtain ⟨a9, c9, e9, hr9, -⟩ := RowAt.of_owns hv6
          cases e9
          rw [← hbl, ← List.cons_append, List.map_append]; exact hr9
        have cT := rtake_any (w := W6) (n := n) (bc := cap6) HX.out.2.2.2.2.1 (HX.out.2.2.2.1.below hb25) hrow6 hrn (fun e => by cases e) (by rw [HR.out.1, hbl1]; omega)
        rw [hbl1, HR.out.1] at cT
        refine wpAnyH_ready (rs := [5]) (by kernel_rfl) (by simp) ?_
        refine AllReadyH.cons rfl (fun K hK => ?_) AllReadyH.nil
        go_simp
        ((with_reducible refine cT.mono ?_); rintro _ W7 ⟨a7, c7, rfl, hrow7, hnil7, hb7⟩)
        refine hK.out _ _ trivial (fun hHeld => ?_)
        clear hK K
        (try simp only [Act.put, Zz])
        obtain ⟨st7, hst7⟩ : ∃ s, turns st (rl ++ bl) ((rl ++ bl).length / 64) = s := ⟨_, rfl⟩
        have h87 : st7.length = 8 := by rw [← hst7]; exact turns_len _ HX.out.2.2.2.2.1
        obtain ⟨U7, hU7⟩ : ∃ U, underV st7 (n + (1 + shaZ n + 8)) (.slice a7 ((rl ++ bl).length % 64) c7) = U := ⟨_, rfl⟩
        have hUs : U7.size = 10 := by rw [← hU7]; exact underV_size h87
        have hUo : U7.all (·.oneCell') = true := by rw [← hU7]; exact underV_one rfl
        have q7 := below_keep hb7 q6
        have C7 := below_keep hb7 (grown_keep hg6 (below_keep (drew_below hb5) HP.out.2.2.2.2) (fun e => by have := (HP.out.2.2.2.1.lt _ e).1; omega))
        have hbw7 : Below w.heap.size w W7 := HX.out.1.trans ((hb25.trans (hb7.mono hb25.size)).mono HX.out.1.size)
        obtain ⟨k1, k2⟩ := setCells_heap U7.toList (w := W7) (g := w.heap.size) (o := 0) q7
        rw [lay_eq _ _ _ (by rw [List.toList_toArray, Array.length_toList, hUs, HP.out.2.2.1]; omega), List.take_zero, List.nil_append, List.drop_of_length_le (by (try rw [List.toList_toArray]); rw [Array.length_toList, Array.length_toList, hUs, underV_size HX.out.2.2.2.2.1]; omega), List.append_nil, Array.toArray_toList] at k1
        have C8 := k2.obj C7 (by omega)
        have hbw8 := Chg.below_new hbw7 k2 (by intro k hk; omega)
        have HU := Lib.hid (And.intro q7 (And.intro hUs (And.intro hUo (And.intro hst7 (And.intro hbl (And.intro h87 hU7))))))
        rw [hst7, hU7]
        clear q7 C7 hbw7 k2 hb7 hb25 hrow6 cT hrow7 hnil7 hUs hUo hst7 hbl h87 q6 q5 hv6 hg6 hrow5 hv5 hb5 cE hbl1
        refine wpAnyH_ready (rs := [6]) (by kernel_rfl) (by simp) ?_
        refine AllReadyH.cons rfl (fun K hK => ?_) AllReadyH.nil
        refine step_store_mid rfl 85 _ _ rfl w.heap.size 0 U7 (by rfl) (by rfl) (there_of_heap HU.out.1 (by rw [HU.out.2.1, HP.out.2.2.1]; omega)) (by rw [HU.out.2.1]; kernel_rfl) HU.out.2.2.1 ?_
        refine hK.out _ _ trivial (fun hHeld => ?_)
        clear hK K
        (try simp only [Act.put, Zz])
        refine wpAnyH_done (by kernel_rfl) ?_ _
        (try simp only [Act.put, Zz])
        clear hHeld
        generalize W7.setCells w.heap.size 0 U7.toList = W8 at *
        obtain ⟨W9, hW9, hb9, hz9, hx9⟩ := al1 W8 #[.int .u8 0, .int .u8 0, .int .u8 0, .int .u8 0, .int .u8 0, .int .u8 0, .int .u8 0, .int .u8 0, .int .u8 0, .int .u8 0, .int .u8 0, .int .u8 0, .int .u8 0, .int .u8 0, .int .u8 0, .int .u8 0, .int .u8 0, .int .u8 0, .int .u8 0, .int .u8 0, .int .u8 0, .int .u8 0, .int .u8 0, .int .u8 0, .int .u8 0, .int .u8 0, .int .u8 0, .int .u8 0, .int .u8 0, .int .u8 0, .int .u8 0, .int .u8 0] 33
        have R9 := underV_range (st := st7) (n := n + (1 + shaZ n + 8)) (r := .slice a7 ((rl ++ bl).length % 64) c7) (by rw [HU.out.2.2.2.2.2.2]; exact below_keep hb9 k1)
        have C9 := below_keep hb9 C8
        have hl8 : (st7.map uv).length = 8 := by rw [List.length_map, HU.out.2.2.2.2.2.1]
        have cW := fun w => words_any (w := w) HU.out.2.2.2.2.2.1
        have hsl := run_sliceAt_all (P := Try.prog) 33 5 32 Try.underlying33 (fun w => by kernel_rfl) W8.heap.size
        have hl32 : (st7.flatMap be4).length = 32 := by rw [flat_be4_len, HU.out.2.2.2.2.2.1]
        have H9 := Lib.hid (And.intro R9 (And.intro C9 (And.intro hl8 (And.intro hx9 (And.intro (hbw8.trans (hb9.mono hbw8.size)) hl32)))))
        have hlt9 : w.heap.size + 1 < W8.heap.size := heap_lt C8
        have hlt9' : W8.heap.size < W9.heap.size := by omega
        clear k1 C8 hbw8 hb9 hz9 hx9 R9 C9 hl8 hl32
        go_wp2_with fail
        refine wp_region_held_drew (S := fun _ => True) (by kernel_rfl) trivial (fun hHeld => ?_)
        refine tk 0 ?_ hHeld (fun w hSw => ?_) ?_; rotate_left
        · go_simp; all_goals (with_reducible rfl)
        (try simp only [Act.put, Zz])
        refine tk 1 ?_ hHeld (fun w hSw => ?_) ?_; rotate_left
        · go_simp; all_goals (with_reducible rfl)
        (try simp only [Act.put, Zz])
        refine wpAnyH_ready (rs := [2]) (by kernel_rfl) (by simp) ?_
        refine AllReadyH.cons rfl (fun K hK => ?_) AllReadyH.nil
        refine step_load_mid rfl 83 _ rfl w.heap.size 0 (by rfl) _ _ H9.out.1 Try.underlying83 rfl (by rw [H9.out.2.2.1]; kernel_rfl) ?_
        refine hK.out _ _ trivial (fun hHeld => ?_)
        clear hK K
        (try simp only [Act.put, Zz])
        refine wpAnyH_ready (rs := [3]) (by kernel_rfl) (by simp) ?_
        refine AllReadyH.cons rfl (fun K hK => ?_) AllReadyH.nil
        go_simp
        ((with_reducible refine (cW _).mono ?_); rintro _ W10 ⟨v10, rfl, hv10, hb10⟩)
        obtain ⟨va10, vc10, rfl, hrow10, -⟩ := RowAt.of_owns hv10
        obtain ⟨b10, o10, rfl, -⟩ := hrow10.at_ (k := 0) (by rw [List.length_map, H9.out.2.2.2.2.2]; omega)
        have D10 := below_keep (drew_below hb10) H9.out.2.2.2.1
        have hsrc10 : ∀ (j : Nat) v, ((st7.flatMap be4).map bv)[j]? = some v → W10.cell? ⟨b10, o10 + j, none⟩ = some v := fun j v hv => by have := row_cells hrow10 j v hv; rw [Addr.add_mid] at this; exact this
        refine hK.out _ _ trivial (fun hHeld => ?_)
        clear hK K
        (try simp only [Act.put, Zz])
        refine wpAnyH_ready (rs := [4]) (by kernel_rfl) (by simp) ?_
        refine AllReadyH.cons rfl (fun K hK => ?_) AllReadyH.nil
        refine step_copy_runI rfl (.tmp 29) (.tmp 32) 30 30 rfl _ _ (by rfl) (by rfl) (copy_bytes W10 _ (g := W8.heap.size) (o := 0) (dl := 32) (dc := 32) (sl := 32) (sc := vc10) (x := st7.flatMap be4) (by rw [H9.out.2.2.2.2.2]; rfl) hsrc10 D10 (by rw [H9.out.2.2.2.2.2]; exact Nat.le_refl 32)) ?_
        refine hK.out _ _ trivial (fun hHeld => ?_)
        clear hK K
        (try simp only [Act.put, Zz])
        refine wpAnyH_done (by kernel_rfl) ?_ _
        (try simp only [Act.put, Zz])
        clear hHeld
        obtain ⟨k1, k2⟩ := setCells_heap ((st7.flatMap be4).map bv) (w := W10) (g := W8.heap.size) (o := 0) D10
        rw [lay_eq _ _ _ (by rw [List.length_map, H9.out.2.2.2.2.2]; decide), List.take_zero, List.nil_append, List.drop_of_length_le (by rw [List.length_map, H9.out.2.2.2.2.2]; decide), List.append_nil] at k1
        have C10 := k2.obj (below_keep (drew_below hb10) H9.out.2.1) (by omega)
        have hbw := Chg.below_new (H9.out.2.2.2.2.1.trans ((drew_below hb10).mono H9.out.2.2.2.2.1.size)) k2 (by intro k hk; omega)
        have hsz : ((st7.flatMap be4).map bv).toArray.size = 32 := by rw [List.size_toArray, List.length_map, H9.out.2.2.2.2.2]
        have HE := Lib.hid (And.intro k1 (And.intro C10 (And.intro hsz hbw)))
        clear k1 k2 C10 hbw hsz hsrc10 hrow10 hv10 hb10 D10 cW hsl
        generalize W10.setCells W8.heap.size 0 ((st7.flatMap be4).map bv) = W11 at *
        go_wp2_with (first
          | (refine wpList_load_row rfl 33 _ rfl W8.heap.size (by rfl) _ _ _ _ HE.out.1 Try.underlying33 (by kernel_rfl) (by rw [HE.out.2.2.1]; kernel_rfl) ?_)
          | (refine wpList_store_row rfl _ _ _ rfl (w.heap.size + 1) ((st7.flatMap be4).map bv).toArray (by rfl) (by rfl) _ _ HE.out.2.1 (by rw [HE.out.2.2.1]; kernel_rfl) (by rw [HE.out.2.2.1]; rfl) bytes_one ?_))
        rw [← HU.out.2.2.2.2.1] at *
        exact bodyPost_ret (results_cell_row (by rfl) _ _ (w.heap.size + 1) _ ((st7.flatMap be4).map bv).toArray _ _ (by rfl) (setRow_heap _ _ _ _ _ _ HE.out.2.1) Try.underlying33 (by kernel_rfl) (by rw [HE.out.2.2.1]; kernel_rfl)) rfl ⟨by rw [HU.out.2.2.2.2.1, HU.out.2.2.2.1]; rfl, setRow_below HE.out.2.2.2 (by omega)⟩

/- Sha, the reference: Sum; an entry's hash by the reference. -/

theorem sha_two (B : List UInt8) : (turns (turns sha0 B (B.length / 64)) (B.drop (64 * (B.length / 64)) ++ 128 :: (List.replicate (shaZ B.length) 0 ++ be8 (8 * B.length)))
    ((B.drop (64 * (B.length / 64)) ++ 128 :: (List.replicate (shaZ B.length) 0 ++ be8 (8 * B.length))).length / 64)).flatMap be4 = sha B := by
  obtain ⟨q, hq⟩ : ∃ q, B.length / 64 = q := ⟨_, rfl⟩
  have hle : 64 * q ≤ B.length := by omega
  have hl : (padded B).length / 64 = q + (B.drop (64 * q) ++ 128 :: (List.replicate (shaZ B.length) 0 ++ be8 (8 * B.length))).length / 64 := by
    unfold padded
    rw [List.length_append, List.length_append, List.length_drop]
    omega
  unfold sha
  rw [hl, hq]
  have e : padded B = B ++ 128 :: (List.replicate (shaZ B.length) 0 ++ be8 (8 * B.length)) := rfl
  unfold turns
  rw [turnsBy_add, e, turnsBy_app _ _ _ _ _ hle, List.drop_append_of_le_length hle]
theorem rsum_any {w : World} {b : List UInt8} {a : Option Addr} {c : Nat} (hr : RowAt w a (b.map bv)) (hnil : a = none → c = 0) (hbig : b.length ≤ 1099511626000) :
    Calls Try.prog 43 #[.slice a b.length c] w fun e w' => e = .returned (hashV (sha b)) ∧ Below w.heap.size w w' := by
  obtain ⟨w1, hw1, hb1, hz1, hx1⟩ := al1 w zero32 33
  have hz1' : w.heap.size < w1.heap.size := by omega
  have cN := rnew_any w1
  have HX := Lib.hid (And.intro hb1 (And.intro hx1 (hr.below hb1)))
  have HZ : Hid (((sha b).map bv).toArray.size = 32) := by show _ = _; rw [List.size_toArray, List.length_map, sha_len]
  unfold zero32 at hw1
  unfold hashV
  clear hb1 hz1 hx1 hr
  go_enter Try.func43, Try.ntmps43
  go_wp2_with fail
  ((with_reducible refine cN.mono ?_); rintro _ w2 ⟨rfl, hb2⟩)
  have cT := rtake_any (w := w2) (st := sha0) (n := 0) (rl := []) (ra := none) (rc := 0) sha0_len (RowAt.nil _ _) (HX.out.2.2.below hb2) (fun _ => rfl) hnil (by simp; omega)
  rw [List.nil_append, List.length_nil, Nat.zero_add] at cT
  have H2 := Lib.hid hb2
  clear hb2 cN
  go_wp2_with fail
  ((with_reducible refine cT.mono ?_); rintro _ w3 ⟨a3, c3, rfl, hr3, hn3, hb3⟩)
  have cE := end_any (w := w3) (n := b.length) (rl := b.drop (64 * (b.length / 64))) (st := turns sha0 b (b.length / 64)) (turns_len _ sha0_len) hr3 hn3 (r := b.length % 64) (by rw [List.length_drop]; omega) rfl hbig
  rw [sha_two] at cE
  have H3 := Lib.hid hb3
  clear hb3 cT hr3 hn3
  go_wp2_with fail
  unfold hashV at cE
  ((with_reducible refine cE.mono ?_); rintro _ w4 ⟨rfl, hb4⟩)
  have hb14 := bthen (bthen H2.out H3.out) hb4
  have HE := Lib.hid (And.intro (below_keep hb14 HX.out.2.1) (HX.out.1.trans (hb14.mono HX.out.1.size)))
  have HR := Lib.hid (hash_ret (l := sha b) HE.out.1 HE.out.2 (Nat.le_refl _))
  clear hb14 hb4 cE
  go_wp2_with (refine wpList_store_row rfl _ _ _ rfl w.heap.size ((sha b).map bv).toArray (by rfl) (by rfl) _ _ HE.out.1 (by rw [HZ.out]; kernel_rfl) (by rw [HZ.out]; rfl) bytes_one ?_)
  exact bodyPost_ret (results_cell_row (by rfl) _ _ w.heap.size _ ((sha b).map bv).toArray _ _ (by rfl) HR.out.1 Try.underlying33 (by kernel_rfl) (by rw [HZ.out]; kernel_rfl)) rfl ⟨rfl, HR.out.2⟩
theorem rof_any {w : World} {b : List UInt8} {a : Option Addr} {c : Nat} (hr : RowAt w a (b.map bv)) (hnil : a = none → c = 0) (hbig : b.length ≤ 1099511626000) :
    Calls Try.prog 32 #[.slice a b.length c] w fun e w' => e = .returned (hashV (sha b)) ∧ Below w.heap.size w w' := by
  obtain ⟨w1, hw1, hb1, hz1, hx1⟩ := al1 w zero32 33
  have hz1' : w.heap.size < w1.heap.size := by omega
  have cS := rsum_any (w := w1) (hr.below hb1) hnil hbig
  have HX := Lib.hid (And.intro hb1 hx1)
  have HZ : Hid (((sha b).map bv).toArray.size = 32) := by show _ = _; rw [List.size_toArray, List.length_map, sha_len]
  unfold zero32 at hw1
  unfold hashV at cS ⊢
  clear hb1 hz1 hx1 hr
  go_enter Try.func32, Try.ntmps32
  go_wp2_with fail
  ((with_reducible refine cS.mono ?_); rintro _ w4 ⟨rfl, hb14⟩)
  have HE := Lib.hid (And.intro (below_keep hb14 HX.out.2) (HX.out.1.trans (hb14.mono HX.out.1.size)))
  have HR := Lib.hid (hash_ret (l := sha b) HE.out.1 HE.out.2 (Nat.le_refl _))
  clear hb14 cS
  go_wp2_with (refine wpList_store_row rfl _ _ _ rfl w.heap.size ((sha b).map bv).toArray (by rfl) (by rfl) _ _ HE.out.1 (by rw [HZ.out]; kernel_rfl) (by rw [HZ.out]; rfl) bytes_one ?_)
  exact bodyPost_ret (results_cell_row (by rfl) _ _ w.heap.size _ ((sha b).map bv).toArray _ _ (by rfl) HR.out.1 Try.underlying33 (by kernel_rfl) (by rw [HZ.out]; kernel_rfl)) rfl ⟨rfl, HR.out.2⟩
theorem rleaf_any {w : World} {b : List UInt8} {a : Option Addr} {c : Nat} (hr : RowAt w a (b.map bv)) (hnil : a = none → c = 0) (hbig : b.length ≤ 1099511625000) :
    Calls Try.prog 11 #[.slice a b.length c] w fun e w' => e = .returned (hashV (leaf b)) ∧ Below w.heap.size w w' := by
  have hmax : maxLen = 9223372036854775807 := rfl
  obtain ⟨i0, hi, hz0, hz1, hz2⟩ := info_parts Try.info5
  obtain ⟨w1, hw1, hb1, hzz1, hx1⟩ := al1 w zero32 33
  obtain ⟨w2, hw2, hb2, hzz2, hx2⟩ := al1 w1 #[.int .u8 0] 5
  have hz1' : w.heap.size < w2.heap.size := by omega
  have hlit : w2.ownsRow w1.heap.size 5 1 (.slice (some ⟨w1.heap.size, 0, none⟩) 1 1) 1 ([(0 : UInt8)].map bv) := by rw [← hw2]; exact ownsRow_lit w1 _ #[.int .u8 0] _ 1 1 (Nat.le_refl _) (by omega) rfl
  have HX := Lib.hid (And.intro (hb1.trans (hb2.mono hb1.size)) (And.intro (below_keep hb2 hx1) (And.intro hlit ((hr.below hb1).below hb2))))
  have HZ : Hid (((leaf b).map bv).toArray.size = 32) := by show _ = _; rw [List.size_toArray, List.length_map, leaf_len]
  have hw12 : w1.heap.size ≤ w2.heap.size := hb2.size
  have hww1 : w.heap.size < w1.heap.size := by omega
  unfold zero32 at hw1
  unfold hashV
  clear hb1 hzz1 hx1 hr hb2 hzz2 hx2 hlit
  go_enter Try.func11, Try.ntmps11
  go_wp2_with (at_builtin; refine wpList_append_any _ rfl (.tmp 3) (.tmp 4) 30 rfl w1.heap.size 5 i0 (.int .u8 0) 1 Try.underlying30 hi hz0 hz1 hz2 rfl _ 1 _ rfl HX.out.2.2.1 a b.length c (b.map bv) rfl (by simp) hnil HX.out.2.2.2 bytes_one' (by omega) (by omega) hw12 ?_; intro v5 w5 hv5 hg5)
  obtain ⟨va, vc, rfl, hrow5, -⟩ := RowAt.of_owns hv5
  have cS := rof_any (w := w5) (b := 0 :: b) (c := vc) (by rw [List.map_cons]; exact hrow5) (ownsRow_cap0 hv5) (by simp; omega)
  rw [List.length_cons, Nat.add_comm b.length 1] at cS
  have h5 := (HX.out.1.grown hg5 (Nat.le_of_lt hz1') (fun k hk => Nat.le_trans (Nat.le_of_lt hww1) (HX.out.2.2.1.lt k hk).1))
  have q5 := grown_keep hg5 HX.out.2.1 (fun e => by have := (HX.out.2.2.1.lt _ e).1; omega)
  have H5 := Lib.hid (And.intro q5 h5)
  clear hv5 hg5 hrow5 q5 h5
  unfold hashV at cS
  go_wp2_with fail
  ((with_reducible refine cS.mono ?_); rintro _ w4 ⟨rfl, hb14⟩)
  have HE := Lib.hid (And.intro (below_keep hb14 H5.out.1) (H5.out.2.trans (hb14.mono H5.out.2.size)))
  have HR := Lib.hid (hash_ret (l := sha (0 :: b)) HE.out.1 HE.out.2 (Nat.le_refl _))
  clear hb14 cS
  go_wp2_with (refine wpList_store_row rfl _ _ _ rfl w.heap.size ((leaf b).map bv).toArray (by rfl) (by rfl) _ _ HE.out.1 (by rw [HZ.out]; kernel_rfl) (by rw [HZ.out]; rfl) bytes_one ?_)
  exact bodyPost_ret (results_cell_row (by rfl) _ _ w.heap.size _ ((leaf b).map bv).toArray _ _ (by rfl) HR.out.1 Try.underlying33 (by kernel_rfl) (by rw [HZ.out]; kernel_rfl)) rfl ⟨rfl, HR.out.2⟩

/- Find: hashes held against each other. -/

/-- which one of two texts stands ahead -/
abbrev cmpB : List UInt8 → List UInt8 → Int := Lib.compareBytes
theorem cmpB_drop {x y : List UInt8} {k : Nat} (h : x.take k = y.take k) (hl : x.length = y.length) : cmpB x y = cmpB (x.drop k) (y.drop k) := by
  induction k generalizing x y with
  | zero => rfl
  | succ k ih =>
    cases x with
    | nil => cases y with
      | nil => rfl
      | cons b y => simp at hl
    | cons a x => cases y with
      | nil => simp at hl
      | cons b y =>
        simp only [List.take_succ_cons, List.cons.injEq] at h
        obtain ⟨rfl, h⟩ := h
        rw [List.drop_succ_cons, List.drop_succ_cons, cmpB, Lib.compareBytes, if_neg (UInt8.lt_irrefl a), if_neg (UInt8.lt_irrefl a)]
        exact ih h (by simpa using hl)
theorem rcompare_any {w : World} {x y : List UInt8} (hx : x.length = 32) (hy : y.length = 32) : Calls Try.prog 12 #[hashV x, hashV y] w fun e w' => e = .returned (.int .i64 (cmpB x y)) ∧ Below w.heap.size w w' := by
  obtain ⟨w2, hw2, hb2, hz2, hxA, hxB⟩ := al2 w (x.map bv).toArray 33 (y.map bv).toArray 33
  have hg2 : w.heap.size + 1 < w2.heap.size := by omega
  have HX := Lib.hid (And.intro hb2 (And.intro hxA (And.intro hxB (And.intro hx hy))))
  unfold hashV
  clear hb2 hz2 hxA hxB hx hy
  go_enter Try.func12, Try.ntmps12
  go_wp2
  go_loopw [5] (fun i wr => ∃ j : Nat, j ≤ 32 ∧ i = .int .i64 j ∧ Hid (x.take j = y.take j) ∧ ∃ q, wr = w2.drewN q) (fun i _ => 32 - (intOf i).toNat)
  case atStart => exact ⟨0, by omega, rfl, rfl, 0, rfl⟩
  case round =>
    obtain ⟨j, hj, rfl, HT, q, rfl⟩ := hrel
    by_cases hlt : j < 32
    · obtain ⟨a, ha⟩ : ∃ a, x[j]? = some a := ⟨_, List.getElem?_eq_getElem (by rw [HX.out.2.2.2.1]; omega)⟩
      obtain ⟨b, hb⟩ : ∃ b, y[j]? = some b := ⟨_, List.getElem?_eq_getElem (by rw [HX.out.2.2.2.2]; omega)⟩
      have qa := cell_of_heap HX.out.2.1 (i := j) (v := .int .u8 (a.toNat : Int)) (by rw [List.getElem?_toArray, List.getElem?_map, ha]; rfl)
      have qb := cell_of_heap HX.out.2.2.1 (i := j) (v := .int .u8 (b.toNat : Int)) (by rw [List.getElem?_toArray, List.getElem?_map, hb]; rfl)
      have HC : Hid (cmpB x y = if a < b then -1 else if b < a then 1 else cmpB (x.drop (j + 1)) (y.drop (j + 1))) := by
        show _ = _
        rw [cmpB_drop HT.out (by rw [HX.out.2.2.2.1, HX.out.2.2.2.2])]
        obtain ⟨hj1, ea⟩ := List.getElem?_eq_some_iff.1 ha
        obtain ⟨hj2, eb⟩ := List.getElem?_eq_some_iff.1 hb
        rw [List.drop_eq_getElem_cons hj1, List.drop_eq_getElem_cons hj2, ea, eb, cmpB, Lib.compareBytes]
      have HN : Hid (a = b → x.take (j + 1) = y.take (j + 1)) := fun e => by rw [List.take_add_one, List.take_add_one, ha, hb, HT.out, e]
      have i1 : (0 : Int) ≤ (j : Int) := by omega
      have i2 : (j : Int) < 32 := by omega
      clear ha hb
      rcases Nat.lt_trichotomy a.toNat b.toNat with hab | hab | hab
      · have HC1 : Hid (cmpB x y = -1) := by show _ = _; rw [HC.out, if_pos (UInt8.lt_iff_toNat_lt.2 hab)]
        have t1 : decide ((a.toNat : Int) < (b.toNat : Int)) = true := by simp; omega
        go_wp2
        go_quiet (fail)
        go_wp2
        go_ret
        exact ⟨by rw [HC1.out]; rfl, below_drewN (below_drewN HX.out.1 _) _⟩
      · have e : a = b := UInt8.toNat_inj.1 hab
        subst e
        have t1 : decide ((a.toNat : Int) < (a.toNat : Int)) = false := by simp
        have H2 := Lib.hid (HN.out rfl)
        clear hab
        go_wp2
        go_quiet (fail)
        go_wp2
        go_quiet (fail)
        go_wp2
        go_roundw
        case rel => exact ⟨j + 1, by omega, by go_num, H2, _, by first | rfl | (simp only [World.drewN_drewN]; rfl)⟩
        case measure => simp [intOf]; omega
      · have HC1 : Hid (cmpB x y = 1) := by show _ = _; rw [HC.out, if_neg (by rw [UInt8.lt_iff_toNat_lt]; omega), if_pos (UInt8.lt_iff_toNat_lt.2 hab)]
        have t1 : decide ((a.toNat : Int) < (b.toNat : Int)) = false := by simp; omega
        have t2 : decide ((b.toNat : Int) < (a.toNat : Int)) = true := by simp; omega
        go_wp2
        go_quiet (fail)
        go_wp2
        go_quiet (fail)
        go_wp2
        go_ret
        exact ⟨by rw [HC1.out]; rfl, below_drewN (below_drewN (below_drewN HX.out.1 _) _) _⟩
    · obtain rfl : j = 32 := by omega
      have HC1 : Hid (cmpB x y = 0) := by
        show _ = _
        rw [cmpB_drop HT.out (by rw [HX.out.2.2.2.1, HX.out.2.2.2.2]), List.drop_of_length_le (by rw [HX.out.2.2.2.1]; omega), List.drop_of_length_le (by rw [HX.out.2.2.2.2]; omega)]
        rfl
      rw [show ((32 : Nat) : Int) = 32 from rfl]
      go_wp2
      go_ret
      exact ⟨by rw [HC1.out]; rfl, below_drewN HX.out.1 _⟩

/- Find: hashes as keys of a map; are two of them the same? -/

def litsB (l : List UInt8) : List Lit := l.map fun b => .int .u8 (b.toNat : Int)
theorem wf_u8 (b : UInt8) : (Lit.int .u8 (b.toNat : Int)).wf = true := by
  have h := b.toNat_lt
  have e1 : IntKind.u8.min = 0 := by decide
  have e2 : IntKind.u8.max = 255 := by decide
  simp [Lit.wf, e1, e2]; omega
theorem litsB_inj : ∀ {x y : List UInt8}, litsB x = litsB y → x = y
  | [], [], _ => rfl
  | [], _ :: _, h => by simp [litsB] at h
  | _ :: _, [], h => by simp [litsB] at h
  | a :: x, b :: y, h => by
    simp only [litsB, List.map_cons, List.cons.injEq, Lit.int.injEq] at h
    have e : a = b := UInt8.toNat_inj.1 (by have := h.1.2; omega)
    rw [e, litsB_inj h.2]
theorem mapM_some {α β : Type} {f : α → Option β} {g : α → β} : ∀ (L : List α), (∀ i ∈ L, f i = some (g i)) → L.mapM f = some (L.map g)
  | [], _ => rfl
  | a :: L, h => by
    rw [List.mapM_cons, h a (List.mem_cons_self ..), mapM_some L (fun i hi => h i (List.mem_cons_of_mem _ hi))]
    rfl
theorem flat_ones {α β : Type} (h : α → β) : ∀ (L : List α), (L.map fun i => [h i]).flatten = L.map h
  | [] => rfl
  | a :: L => by rw [List.map_cons, List.flatten_cons, flat_ones h L]; rfl
theorem range_lits {l : List UInt8} : (List.range l.length).map (fun i => Lit.int .u8 ((l.getD i 0).toNat : Int)) = litsB l := by
  apply List.ext_getElem?
  intro i
  rw [List.getElem?_map, litsB, List.getElem?_map]
  by_cases hi : i < l.length
  · rw [List.getElem?_range hi, List.getElem?_eq_getElem hi]
    simp [List.getElem?_eq_getElem hi]
  · rw [List.getElem?_eq_none (by simpa using hi), List.getElem?_eq_none (by simpa using hi)]
    rfl
theorem byte_lits (d : Nat) (b : UInt8) : Try.prog.keyLits (d + 1) 5 [bv b] = some [.int .u8 (b.toNat : Int)] := by
  unfold Program.keyLits bv
  simp [Try.underlying5, wf_u8]
theorem hash_lits (d : Nat) {l : List UInt8} (h : l.length = 32) : Try.prog.keyLits (d + 2) 33 (hashV l).cells.toList = some (litsB l) := by
  have hc : (hashV l).cells.toList = l.map bv := by simp [hashV, Value.cells]
  have h1 : Try.prog.cellsOf 5 = 1 := by kernel_rfl
  have h2 : Try.prog.cellsOf 33 = 32 := by kernel_rfl
  rw [hc]
  unfold Program.keyLits
  simp only [Try.underlying33, h1, h2, List.length_map, h, if_true, Nat.mul_one]
  rw [mapM_some (g := fun i => [Lit.int .u8 ((l.getD i 0).toNat : Int)])]
  · rw [Option.map_some, flat_ones, ← h, range_lits]
  · intro i hi
    have hi' : i < l.length := by rw [h]; simpa using hi
    rw [← List.map_drop, List.drop_eq_getElem_cons hi', List.map_cons, List.take_succ_cons, List.take_zero, byte_lits]
    simp [List.getElem?_eq_getElem hi']
theorem hash_formed {l : List UInt8} (h : l.length = 32) : (hashV l).formed Try.prog 33 = true := by
  have h2 : Try.prog.cellsOf 33 = 32 := by kernel_rfl
  simp [hashV, Value.formed, Try.underlying33, h2, h]
/-- two hashes, held against each other -/
theorem hash_equal {x y : List UInt8} (hx : x.length = 32) (hy : y.length = 32) (w : World) : (Op.equalIn 10000 33 (hashV x) (hashV y)).run Try.prog w = .ok (decide (x = y)) w := by
  obtain ⟨r, h1, h2⟩ := run_equalIn_deep (P := Try.prog) 9998 2 33 (by kernel_rfl) w 2 2 (hashV x) (hashV y) (litsB x) (litsB y) (hash_formed hx) (hash_formed hy) (hash_lits 0 hx) (hash_lits 0 hy)
  have e : r = decide (x = y) := by
    rw [Bool.eq_iff_iff, h2, decide_eq_true_iff]
    exact ⟨litsB_inj, fun e => by rw [e]⟩
  rw [h1, e]
theorem hashArr : WideMaps.ArrKey Try.prog 33 5 32 := ⟨Try.underlying33, by kernel_rfl, by kernel_rfl, by kernel_rfl⟩

theorem hashKeyed : Keyed Try.prog 33 := Keyed.of_law hashArr.law
theorem hash_key {l : List UInt8} (h : l.length = 32) : keyOf Try.prog 33 (hashV l) = some (.string (keyBytes (litsB l))) := by
  have hs : Try.prog.types.size + 1 = (Try.prog.types.size - 1) + 2 := by
    have : 0 < Try.prog.types.size := of_decide_eq_true (by kernel_rfl)
    omega
  have hk : Try.prog.keyType 33 = true := by kernel_rfl
  unfold keyOf
  simp only [Try.underlying33, hk, hash_formed h, hs, hash_lits _ h, Bool.and_self, if_true, Option.map_some]

end Go.Proofs.Ytljobojdcnhecaa
