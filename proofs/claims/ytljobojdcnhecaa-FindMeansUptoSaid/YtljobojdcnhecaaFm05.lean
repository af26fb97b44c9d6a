/- Texts of this claim, one behind the other: IaH. -/
import Derived.Test.YtljobojdcnhecaaFm04
set_option linter.unusedSimpArgs false
set_option linter.unusedVariables false
set_option maxRecDepth 100000
set_option maxHeartbeats 4000000
namespace Go.Proofs.Ytljobojdcnhecaa
/- Sha: take. -/
open Go.RowKit Go.Maps

/-- a slice of an array in a block, from a place on -/
theorem run_sliceAt_mid {P : Program} (t : TypeId) (e : TypeId) (n : Nat) (ht : P.underlying t = some (.array n e)) (he : ∀ w, (sizeOf e).run P w = Result.ok 1 w) (g o k : Nat) (hk : k < n) (w : World) :
    (Instr.sliceAt t (.pointer (some ⟨g, o, none⟩)) (some (.int .i64 (k : Int))) none none).run P w = Result.ok (.slice (some ⟨g, o + k, none⟩) (n - k) (n - k)) w := by
  have e1 : P.elem t = e := by simp [Program.elem, ht]
  have e2 : P.arrayLen t = n := by simp [Program.arrayLen, ht]
  rw [run_sliceAt_array_l (t := t) (ht := by rw [e1, e2]; exact ht) (kl := .i64) (h0 := by omega) (h1 := by omega), e1, e2, he]
  simp [Result.andThen, slicedAt, Addr.add_mid, show n ≠ k from by omega]
theorem Chg.drew_of {O : Nat → Prop} {a b : World} (h : Chg O a b) (q : Nat) : Chg O a (b.drewN q) := ⟨h.os, h.tape, h.output, h.size, h.block⟩
/-- a load of many cells as a step of a still region -/
theorem still_load_mid {P : Program} {op : Oper} {a : Act} {w : World} {next : Act → Prop} (ty : TypeId) (x : Operand) (ho : op.op = .load ty x) (b o : Nat) (hx : a.eval x = .pointer (some ⟨b, o, none⟩)) (cs : List Value) (d : TypeDesc) (hc : w.rangeAt b o cs)
    (hu : P.underlying ty = some d) (hd : d.isRow = true) (hi : (P.info? ty).map (·.size) = some cs.length) (h : next (a.put op.dst (.agg cs.toArray))) : op.still P a w next := by
  unfold Oper.still execOp
  simp only [ho, hx, Instr.loadAt, Instr.sureAddr, Sem.run_bind, Sem.run_pure, Result.andThen_ok, run_loadVar_mid w b o ty cs d hc hu hd hi]
  exact ⟨rfl, h⟩
theorem copy_bytes (W : World) (ty : TypeId) {g o dl dc : Nat} {b off : Nat} {sl sc : Nat} {x : List UInt8} {cur : Array Value} {T : TypeId} (hn : x.length = Nat.min sl dl) (hsrc : ∀ (j : Nat) v, (x.map bv)[j]? = some v → W.cell? ⟨b, off + j, none⟩ = some v) (hg : W.heap[g]? = some (.cells cur T (0, 0))) (hfit : o + x.length ≤ cur.size) :
    (Builtin.copy_ #[30, 30] ty #[.slice (some ⟨g, o, none⟩) dl dc, .slice (some ⟨b, off, none⟩) sl sc]).run Try.prog W = .ok (.int .i64 (x.length : Int)) (W.setCells g o (x.map bv)) := by
  have := run_copy_cells (P := Try.prog) W 30 30 ty 5 g o dl dc ⟨b, off, none⟩ sl sc (x.map bv) Try.underlying30 (by kernel_rfl) (by rw [List.length_map]; exact hn) (fun j v hv => by rw [Addr.add_mid]; exact hsrc j v hv) (fun j hj => by rw [List.length_map] at hj; simp [World.cell?, hg]; omega) (fun j hj => frozen_of_heap hg) (fun v hv => by obtain ⟨u, _, rfl⟩ := List.mem_map.1 hv; rfl)
  rw [this, List.length_map]; rfl
theorem step_load_mid {P : Program} {ops : Array Oper} {o : Oper} {a : Act} {w : World} {K : Act → World → Prop} {Q : Exit → Act → World → Prop} {E : Prop} (hg : o.guard = none) (ty : TypeId) (x : Operand) (ho : o.op = .load ty x)
    (b o' : Nat) (hx : a.eval x = .pointer (some ⟨b, o', none⟩)) (cs : List Value) (d : TypeDesc) (hc : w.rangeAt b o' cs) (hu : P.underlying ty = some d) (hd : d.isRow = true) (hi : (P.info? ty).map (·.size) = some cs.length) (hK : K (a.put o.dst (.agg cs.toArray)) w) :
    if Region.wanted o (yielded ops a.tmps) = true then Oper.wp P o a w K Q else E := by
  rw [if_pos (by simp [Region.wanted, hg])]
  exact wp_load_mid ty x ho b o' hx cs d hc hu hd hi hK
theorem step_store_mid {P : Program} {ops : Array Oper} {o : Oper} {a : Act} {w : World} {K : Act → World → Prop} {Q : Exit → Act → World → Prop} {E : Prop} (hg : o.guard = none) (ty : TypeId) (x y : Operand) (ho : o.op = .store ty x y)
    (b o' : Nat) (cells : Array Value) (hx : a.eval x = .pointer (some ⟨b, o', none⟩)) (hy : a.eval y = .agg cells) (ht : w.there b o' cells.size) (hi : (P.info? ty).map (·.size) = some cells.size) (h1 : cells.all (·.oneCell') = true) (hK : K (a.put o.dst undef) (w.setCells b o' cells.toList)) :
    if Region.wanted o (yielded ops a.tmps) = true then Oper.wp P o a w K Q else E := by
  rw [if_pos (by simp [Region.wanted, hg])]
  exact wp_store_mid ty x y ho b o' cells hx hy ht hi h1 hK
def lenS : Value → Nat
  | .slice _ n _ => n
  | _ => 0
theorem sub_block {b0 off c k s : Nat} (h : b0 ≠ s) : ∀ y, subAt (some ⟨b0, off, none⟩) c k = some y → y.block ≠ s := fun y hy => by
  unfold subAt at hy
  split at hy
  · cases hy; exact h
  · rw [Option.map_some, Addr.add_mid] at hy; cases hy; exact h
theorem uv_one {l : List UInt32} : ∀ v ∈ l.map uv, v.oneCell' = true := fun v hv => by obtain ⟨u, _, rfl⟩ := List.mem_map.1 hv; rfl
theorem take_any {w : World} {s : Nat} {l b : List UInt8} {a : Option Addr} {c : Nat} (h : ShaAt w s l) (hrow : RowAt w a (b.map bv)) (hc : b.length ≤ c) (hs : ∀ x, a = some x → b ≠ [] → x.block ≠ s) (hbig : l.length + b.length ≤ 1099511627776) :
    Calls Try.prog 66 #[.pointer (some ⟨s, 0, none⟩), .slice a b.length c] w fun e w' => (∃ v, e = .returned v) ∧ ShaAt w' s (l ++ b) ∧ Chg (· = s) w w' := by
  have hmax : maxLen = 9223372036854775807 := rfl
  go_enter Try.func66, Try.ntmps66
  go_wp2
  go_loopw [1] (fun bv' wr => ∃ k, k ≤ b.length ∧ ∃ a c, bv' = .slice a (b.length - k) c ∧ b.length - k ≤ c ∧ RowAt wr a ((b.drop k).map bv) ∧ (∀ x, a = some x → k < b.length → x.block ≠ s) ∧ ShaAt wr s (l ++ b.take k) ∧ Chg (· = s) w wr) (fun bv' _ => lenS bv')
  case atStart => exact ⟨0, by omega, a, c, rfl, by omega, by simpa using hrow, fun x hx hlt => hs x hx (fun e => by rw [e] at hlt; simp at hlt), by simpa using h, Chg.refl _ _⟩
  case round =>
    clear h hrow hc hs
    obtain ⟨k, hk, a, c, rfl, hc, hrow, hs, hS, hg⟩ := hrel
    by_cases hlt : k < b.length
    · obtain ⟨buf, hb1, hb2, hh⟩ := hS
      obtain ⟨m, hm⟩ : ∃ m, b.length - k = m := ⟨_, rfl⟩
      obtain ⟨L, hL⟩ : ∃ L, l ++ b.take k = L := ⟨_, rfl⟩
      have hLl : L.length = l.length + k := by rw [← hL, List.length_append, List.length_take]; omega
      rw [hL] at hb2 hh
      rw [hm] at hc ⊢
      obtain ⟨x, hx⟩ : ∃ x, (b.drop k).take (64 - rOf L) = x := ⟨_, rfl⟩
      have hrl : rOf L < 64 := Nat.mod_lt _ (by omega)
      have hxl : x.length = Nat.min m (64 - rOf L) := by rw [← hx, List.length_take, List.length_drop, hm]; exact Nat.min_comm _ _
      obtain ⟨b0, off, rfl, -⟩ := hrow.at_ (k := 0) (by rw [List.length_map, List.length_drop]; omega)
      have hsb : b0 ≠ s := hs _ rfl hlt
      have hsrc : ∀ (j : Nat) v, (x.map bv)[j]? = some v → wr.cell? ⟨b0, off + j, none⟩ = some v := fun j v hv => by
        obtain ⟨b1, o1, e1, hcl⟩ := hrow (by intro e; have := congrArg List.length e; rw [List.length_map, List.length_drop, List.length_nil] at this; omega)
        cases e1
        refine hcl j v ?_
        rw [← hx, List.map_take, List.getElem?_take] at hv
        split at hv
        · exact hv
        · cases hv
      obtain ⟨r, hr⟩ : ∃ r, rOf L = r := ⟨_, rfl⟩
      rw [hr] at hrl hxl hb2
      have hxr : r + x.length ≤ 64 := by rw [hxl]; have : Nat.min m (64 - r) ≤ 64 - r := Nat.min_le_right _ _; omega
      have hxm : x.length ≤ m := by rw [hxl]; exact Nat.min_le_left _ _
      have hx0 : 0 < x.length := by rw [hxl]; exact Nat.lt_min.2 ⟨by omega, by omega⟩
      have hcp := fun ty => copy_bytes wr ty (g := s) (o := 8 + r) (dl := 64 - r) (dc := 64 - r) (sl := m) (sc := c) hxl hsrc hh (by rw [List.size_toArray, shaC_len (stOf_len _) hb1]; omega)
      obtain ⟨W1, hW1⟩ : ∃ z, wr.setCells s (8 + r) (x.map bv) = z := ⟨_, rfl⟩
      obtain ⟨q1, q2⟩ := setCells_heap (x.map bv) (w := wr) (g := s) (o := 8 + r) hh
      rw [hW1] at hcp q1 q2
      rw [List.toList_toArray, shaC_buf (stOf_len _) hb1 hxr] at q1
      obtain ⟨buf', hbuf⟩ : ∃ z, buf.take r ++ (x ++ buf.drop (r + x.length)) = z := ⟨_, rfl⟩
      have hb1' : buf'.length = 64 := by rw [← hbuf]; simp; omega
      rw [hbuf] at q1
      have c72 : wr.cell? ⟨s, 72, none⟩ = some (.int .i64 (L.length : Int)) := cell_of_heap hh (shaC_get_n (stOf_len _) hb1)
      have d72 : W1.cell? ⟨s, 72, none⟩ = some (.int .i64 (L.length : Int)) := cell_of_heap q1 (shaC_get_n (stOf_len _) hb1')
      have z72 : W1.frozen? ⟨s, 72, none⟩ = false := frozen_of_heap q1
      have q3 := heap_set_cells (i := 72) (.int .i64 ((L.length + x.length : Nat) : Int)) q1
      rw [shaC_n (stOf_len _) hb1', show ((L.length + x.length : Nat) : Int) = (L.length : Int) + (x.length : Int) from by omega] at q3
      obtain ⟨W2, hW2⟩ : ∃ z, W1.setCell ⟨s, 72, none⟩ (.int .i64 ((L.length : Int) + (x.length : Int))) = z := ⟨_, rfl⟩
      rw [hW2] at q3
      have q4 : Chg (· = s) w W2 := (hg.trans q2 (fun _ h _ => h)).trans (by rw [← hW2]; exact Chg.set (O := (· = s)) _ rfl) (fun _ h _ => h)
      have hlx : (L ++ x) = l ++ b.take (k + x.length) := by
        rw [← hL, List.append_assoc]; congr 1
        rw [← hx, List.take_add]; congr 1
        rw [hx, ← hx, List.length_take, List.length_drop, hm, hr, List.take_eq_take_iff, List.length_drop]; omega
      have hrow2 : RowAt W2 (subAt (some ⟨b0, off, none⟩) c x.length) ((b.drop (k + x.length)).map bv) := by
        have := (hrow.drop c x.length (by rw [List.length_map, List.length_drop]; omega)).kept (w' := W2) (fun b' hb' ⟨o', sp', e'⟩ => by
          have : b' ≠ s := by
            unfold subAt at e'; split at e' <;> simp [Addr.add] at e' <;> (try split at e') <;> simp_all
          exact (q2.trans (by rw [← hW2]; exact Chg.set (O := (· = s)) _ rfl) (fun _ h _ => h)).block b' hb' this)
        rw [← List.map_drop, List.drop_drop] at this
        exact this
      have hsl1 := run_sliceAt_mid (P := Try.prog) 114 5 64 Try.underlying114 (fun w => by kernel_rfl) s 8 r (by omega) wr
      have hsl2 := run_slice_lo (P := Try.prog) 30 5 Try.underlying30 (fun w => by kernel_rfl) (some ⟨b0, off, none⟩) m c x.length hxm W1
      have e1 : (L.length : Int) % 64 = (r : Int) := by rw [← hr]; unfold rOf; omega
      have e2 : Int.tmod (L.length : Int) 64 = (r : Int) := by rw [Int.tmod_eq_emod_of_nonneg (by omega)]; exact e1
      have e3 : IntKind.i64.wrap ((L.length : Int) + (x.length : Int)) = ((L.length + x.length : Nat) : Int) := by rw [Go.IntWalk.i64_in] <;> omega
      have e4 : IntKind.i64.wrap ((r : Int) + (x.length : Int)) = ((r + x.length : Nat) : Int) := by rw [Go.IntWalk.i64_in] <;> omega
      have hmm : decide ((m : Int) > 0) = true := by simp; omega
      have m0 : (0 : Int) < (m : Int) := by omega
      have HF := Lib.hid (And.intro q3 (And.intro q4 (And.intro hlx (And.intro hrow2 (And.intro hb1' (And.intro hbuf (And.intro hb2 (And.intro hr hb1))))))))
      have HM := Lib.hid hm
      have HX := Lib.hid (And.intro hx (And.intro hxl hLl))
      by_cases hf : r + x.length = 64
      · have tf : (((r + x.length : Nat) : Int) == 64) = true := by simp; omega
        have R1 : W2.drew.rangeAt s 0 ((stOf L).map uv) := range_of_heap q3 (fun j v hj => by
          unfold shaC; rw [Nat.zero_add, List.getElem?_append_left (by exact (List.getElem?_eq_some_iff.1 hj).1)]; exact hj)
        have R2 : W2.drew.rangeAt s 8 (buf'.map bv) := range_of_heap q3 (fun j v hj => by
          have hj1 := (List.getElem?_eq_some_iff.1 hj).1
          unfold shaC
          rw [List.getElem?_append_right (by rw [List.length_map, stOf_len]; omega), List.length_map, stOf_len, show 8 + j - 8 = j from by omega, List.getElem?_append_left hj1]; exact hj)
        have cB := Block_any (w := W2.drew) (v := stOf L) (l := buf') (stOf_len _) hb1'
        have L1 : ((stOf L).map uv).length = 8 := by rw [List.length_map, stOf_len]
        have L2 : (buf'.map bv).length = 64 := by rw [List.length_map, hb1']
        have HL := Lib.hid (And.intro R1 (And.intro R2 (And.intro L1 L2)))
        clear hL hx hxl hr hb2 hh hsrc hrow hLl hm hb1 hb1' hbuf q1 q2 q3 q4 hlx hrow2 hg R1 R2 L1 L2
        go_wp2_with (refine wpList_copy_runI _ rfl (.tmp 18) (.tmp 19) 30 30 rfl _ _ rfl rfl (hcp _) ?_)
        go_wp2_with fail
        refine wp_region_held_drew (S := fun _ => True) (by kernel_rfl) trivial (fun hHeld => ?_)
        refine tk 0 ?_ hHeld (fun w hSw => ?_) ?_; rotate_left
        · go_simp; all_goals (with_reducible rfl)
        simp only [Act.put, Zz]
        refine tk 1 ?_ hHeld (fun w hSw => ?_) ?_; rotate_left
        · go_simp; all_goals (with_reducible rfl)
        simp only [Act.put, Zz]
        refine tk 2 ?_ hHeld (fun w hSw => ?_) ?_; rotate_left
        · go_simp; all_goals (with_reducible rfl)
        simp only [Act.put, Zz]
        refine tk 3 ?_ hHeld (fun w hSw => ?_) ?_; rotate_left
        · go_simp; all_goals (with_reducible rfl)
        simp only [Act.put, Zz]
        refine tk 5 ?_ hHeld (fun w hSw => ?_) ?_; rotate_left
        · go_simp; all_goals (with_reducible rfl)
        simp only [Act.put, Zz]
        refine tk 6 ?_ hHeld (fun w hSw => ?_) ?_; rotate_left
        · go_simp; all_goals (with_reducible rfl)
        simp only [Act.put, Zz]
        refine tk 7 ?_ hHeld (fun w hSw => ?_) ?_; rotate_left
        · go_simp; all_goals (with_reducible rfl)
        simp only [Act.put, Zz]
        refine wpAnyH_ready (rs := [4, 8]) (by kernel_rfl) (by simp) ?_
        refine AllReadyH.cons rfl (fun K hK => ?_) (AllReadyH.cons rfl (fun K hK => ?_) AllReadyH.nil)
        focus
          refine step_load_mid rfl 83 _ rfl s 0 (by rfl) _ _ HL.out.1 Try.underlying83 rfl (by rw [HL.out.2.2.1]; kernel_rfl) ?_
          refine hK.out _ _ trivial (fun hHeld => ?_)
          clear hK K
          (try simp only [Act.put, Zz])
          refine wpAnyH_ready (rs := [8]) (by kernel_rfl) (by simp) ?_
          refine AllReadyH.cons rfl (fun K hK => ?_) AllReadyH.nil
          refine step_load_mid rfl 114 _ rfl s 8 (by rfl) _ _ HL.out.2.1 Try.underlying114 rfl (by rw [HL.out.2.2.2]; kernel_rfl) ?_
          refine hK.out _ _ trivial (fun hHeld => ?_)
          clear hK K
          (try simp only [Act.put, Zz])
        rotate_left
        focus
          refine step_load_mid rfl 114 _ rfl s 8 (by rfl) _ _ HL.out.2.1 Try.underlying114 rfl (by rw [HL.out.2.2.2]; kernel_rfl) ?_
          refine hK.out _ _ trivial (fun hHeld => ?_)
          clear hK K
          (try simp only [Act.put, Zz])
          refine wpAnyH_ready (rs := [4]) (by kernel_rfl) (by simp) ?_
          refine AllReadyH.cons rfl (fun K hK => ?_) AllReadyH.nil
          refine step_load_mid rfl 83 _ rfl s 0 (by rfl) _ _ HL.out.1 Try.underlying83 rfl (by rw [HL.out.2.2.1]; kernel_rfl) ?_
          refine hK.out _ _ trivial (fun hHeld => ?_)
          clear hK K
          (try simp only [Act.put, Zz])
        all_goals
          refine wpAnyH_ready (rs := [9]) (by kernel_rfl) (by simp) ?_
          refine AllReadyH.cons rfl (fun K hK => ?_) AllReadyH.nil
          go_simp
          ((with_reducible refine cB.mono ?_); rintro _ W5 ⟨rfl, hb5⟩)
          refine hK.out _ _ trivial (fun hHeld => ?_)
          clear hK K
          (try simp only [Act.put, Zz])
          refine tk 10 ?_ hHeld (fun w hSw => ?_) ?_; rotate_left
          · go_simp; all_goals (with_reducible rfl)
          (try simp only [Act.put, Zz])
          refine tk 11 ?_ hHeld (fun w hSw => ?_) ?_; rotate_left
          · go_simp; all_goals (with_reducible rfl)
          (try simp only [Act.put, Zz])
          have q5 : W5.heap[s]? = _ := below_keep (show Below W2.heap.size W2 W5 from ⟨hb5.os, hb5.tape, hb5.output, hb5.size, hb5.block⟩) HF.out.1
          refine wpAnyH_ready (rs := [12]) (by kernel_rfl) (by simp) ?_
          refine AllReadyH.cons rfl (fun K hK => ?_) AllReadyH.nil
          refine step_store_mid rfl 83 _ _ rfl s 0 ((turn (stOf L) buf').map uv).toArray (by rfl) (by rfl) (there_of_heap q5 (by rw [shaC_len (stOf_len _) HF.out.2.2.2.2.1, List.size_toArray, List.length_map, turn_len (stOf_len _)]; omega)) (by rw [List.size_toArray, List.length_map, turn_len (stOf_len _)]; kernel_rfl) (all_oneCell_toArray uv_one) ?_
          refine hK.out _ _ trivial (fun hHeld => ?_)
          clear hK K
          refine wpAnyH_done (by kernel_rfl) ?_ _
          (try simp only [Act.put, Zz])
          obtain ⟨k1, k2⟩ := setCells_heap ((turn (stOf L) buf').map uv) (w := W5) (g := s) (o := 0) q5
          rw [List.toList_toArray, shaC_st (stOf_len _) (turn_len (stOf_len _))] at k1
          have hg5 : Chg (· = s) w (W5.setCells s 0 ((turn (stOf L) buf').map uv)) := (HF.out.2.1.trans (O' := (· = s)) (Chg.of_below (show Below W2.heap.size W2 W5 from ⟨hb5.os, hb5.tape, hb5.output, hb5.size, hb5.block⟩)) (fun _ h _ => h)).trans k2 (fun _ h _ => h)
          have hr5 := HF.out.2.2.2.1.kept (w' := W5.setCells s 0 ((turn (stOf L) buf').map uv)) (fun b' hb' ⟨o', sp', e'⟩ => by
            have hne : b' ≠ s := sub_block hsb _ e'
            exact (k2.block b' (Nat.lt_of_lt_of_le hb' hb5.size) hne).trans (hb5.block b' hb'))
          have HZ := Lib.hid (And.intro k1 (And.intro hg5 hr5))
          clear k1 k2 hg5 hr5 q5 hb5
          (try rw [List.toList_toArray])
          go_wp2
          go_roundw
          case rel =>
            obtain ⟨p1, p2, p3, p4, p5, p6, p7, p8, p9⟩ := HF.out
            have hm' := HM.out
            obtain ⟨y1, y2, y3⟩ := sha_full p9 (by rw [p8]; exact p7) (by rw [p8]; exact hf)
            rw [p3, p8, p6] at y1
            rw [p3] at y2 y3
            refine ⟨k + x.length, by omega, _, c - x.length, by rw [show b.length - (k + x.length) = m - x.length from by omega], by omega, HZ.out.2.2, fun y hy _ => sub_block hsb y hy, ⟨buf', p5, by rw [y2, y3]; rfl, ?_⟩, HZ.out.2.1⟩
            rw [y1, ← p3, List.length_append]
            exact HZ.out.1
          case measure => simp [lenS]; omega
      · have hlt64 : r + x.length < 64 := by omega
        have tf : (((r + x.length : Nat) : Int) == 64) = false := by simp; omega
        clear hL hx hxl hr hb2 hh hsrc hrow hLl hm hb1 hb1' hbuf hf q1 q2 q3 q4 hlx hrow2 hg
        go_wp2_with (refine wpList_copy_runI _ rfl (.tmp 18) (.tmp 19) 30 30 rfl _ _ rfl rfl (hcp _) ?_)
        go_roundw
        case rel =>
          obtain ⟨p1, p2, p3, p4, p5, p6, p7, p8, p9⟩ := HF.out
          have hm' := HM.out
          obtain ⟨y1, y2, y3⟩ := sha_part p9 (by rw [p8]; exact p7) (by rw [p8]; omega)
          rw [p3, p8, p6] at y3
          rw [p3] at y1
          refine ⟨k + x.length, by omega, _, c - x.length, by rw [show b.length - (k + x.length) = m - x.length from by omega], by omega, p4, fun y hy _ => sub_block hsb y hy, ⟨buf', p5, y3, ?_⟩, p2⟩
          rw [y1, ← p3, List.length_append]
          exact p1
        case measure => simp [lenS]; omega
    · obtain rfl : k = b.length := by omega
      rw [Nat.sub_self] at hc ⊢
      rw [List.take_of_length_le (Nat.le_refl _)] at hS
      have HS := Lib.hid (And.intro hS hg)
      clear hS hg hrow hs hlt hk
      go_wp2
      exact bodyPost_end (results_none rfl _ _ _) rfl ⟨⟨_, rfl⟩, HS.out⟩

end Go.Proofs.Ytljobojdcnhecaa
