/- Texts of this claim, one behind the other: IbH, IbB, IbR. -/
import Derived.Test.YtljobojdcnhecaaFm13
import Derived.Deep.CutRange
import Derived.Test.YtljobojdcnhecaaFm11
set_option linter.unusedSimpArgs false
set_option linter.unusedVariables false
set_option maxRecDepth 100000
set_option maxHeartbeats 8000000
namespace Go.Proofs.Ytljobojdcnhecaa
/- Find: bytes held against each other; Of, First. (printed by gen/ofx.py) -/
open Go.RowKit Go.Maps Go.MapKept

/-- string(b), whatever the address of an empty one -/
theorem run_conv {P : Program} {w : World} (src dst e : TypeId) (hs : P.underlying src = some (.slice e)) (he : P.underlying e = some (.int .u8)) (hd : P.underlying dst = some .string)
    {a : Option Addr} {c : Nat} {l : List UInt8} (h : RowAt w a (l.map bv)) : (convert src dst (.slice a l.length c)).run P w = Result.ok (.string ⟨l.toArray⟩) w := by
  by_cases hl : l = []
  · subst hl
    rw [List.length_nil, run_convert_bytes_string w src dst e _ 0 c hs he hd]
    cases a <;> simp [Conv.bytesToString, loadCells]
    all_goals rfl
  · obtain ⟨b, off, rfl, hc⟩ := h (by simpa using hl)
    have hx := run_convert_bytes_arg (P := P) w src e hs he b off l.length c (l.map fun y => (y.toNat : Int)) (by simp) (fun i hi => by
      have := hc i (bv l[i]) (by simp [hi])
      rw [this]
      simp [bv, List.getD_eq_getElem?_getD, hi]) dst hd
    rw [hx]
    congr 2
    apply ByteArray.ext
    apply Array.toList_inj.1
    simp only [strOfNums, List.map_map]
    have : (fun n : Int => UInt8.ofNat n.toNat) ∘ (fun y : UInt8 => (y.toNat : Int)) = id := by funext y; simp
    rw [this, List.map_id]
theorem Equal_any {w : World} {a b : Option Addr} {c d : Nat} {l m : List UInt8} (h1 : RowAt w a (l.map bv)) (h2 : RowAt w b (m.map bv)) :
    Calls Try.prog 35 #[.slice a l.length c, .slice b m.length d] w fun e w' => e = .returned (.bool (l == m)) ∧ w = w' := by
  have q1 := run_conv (P := Try.prog) (w := w) 30 9 5 Try.underlying30 Try.underlying5 Try.underlying9 (c := c) h1
  have q2 := run_conv (P := Try.prog) (w := w) 30 9 5 Try.underlying30 Try.underlying5 Try.underlying9 (c := d) h2
  go_enter Try.func35, Try.ntmps35
  go_wp2
  go_ret
  exact ⟨rfl, rfl⟩
/-- the map is as it was -/
def MapSame (w : World) (vm : Value) (w' : World) : Prop := ∀ bm es c, vm = .map (some bm) → w.heap[bm]? = some (.map es c) → w'.heap[bm]? = some (.map es c)
theorem MapSame.refl (w : World) (vm : Value) : MapSame w vm w := fun _ _ _ _ h => h
theorem MapSame.below {w w1 w2 : World} {vm : Value} (h : MapSame w vm w1) (hb : Below w1.heap.size w1 w2) : MapSame w vm w2 := fun bm es c e k => below_keep hb (h bm es c e k)
theorem XRaw.look {F G : Nat → Prop} {w : World} {bx : Nat} {ve vo vm : Value} {E H H' : List (List UInt8)} (hX : XRaw F G w bx ve vo vm E H H') {h : List UInt8} (hl : h.length = 32) :
    ∃ v, RowI w v (likes H' h) ∧ (∀ b, v.ownBlock = some b → F b) ∧ ∀ W, MapSame w vm W → (Instr.lookup 56 vm (hashV h) false).run Try.prog W = .ok v W := by
  rcases hX.by_ with ⟨rfl, rfl⟩ | ⟨bm, es, clock, rfl, hF, hm, hB⟩
  · refine ⟨.slice none 0 0, World.ownsRow_nil _ _ _ _, fun b hb => (by cases hb), fun W _ => ?_⟩
    have hz : ∀ W : World, (zeroValue 41).run Try.prog W = .ok (.slice none 0 0) W := fun W => by kernel_rfl
    rcases hashKeyed.find W (hash_key hl) [] (fun e he => by simp at he) with ⟨k1, k2⟩ | ⟨j, e, k1, k2, k3⟩
    · simp [Instr.lookup, run_underlying Try.underlying56, hashKeyed.check W _ (hash_key hl), k1, hz, Result.andThen]
    · simp at k2
  · obtain ⟨v, h1, h2, h3⟩ := hB.look (bm := bm) hl
    exact ⟨v, h1, h2, fun W hW => h3 W (hW bm es clock rfl hm)⟩
theorem exec_lookup {P : Program} {op : Oper} {a : Act} {w : World} (t : TypeId) (m x : Operand) (ho : op.op = .lookup t m x false) (mv xv v : Value) (hm : a.eval m = mv) (hx : a.eval x = xv) (hr : (Instr.lookup t mv xv false).run P w = .ok v w) : (execOp a.eval op).run P w = .ok (.value v) w := by
  simp [execOp, ho, hm, hx, hr, Result.andThen]
theorem up_cell {w w' : World} (hb : Below w.heap.size w w') {a : Addr} {v : Value} (h : w.cell? a = some v) : w'.cell? a = some v := (hb.cell (World.block_lt_of_cell? _ _ h)).trans h
theorem Try.info3 : (Try.prog.info? 3).map (fun i => (i.zero, i.size, i.bytes)) = some (some (.int .i64 0), 1, 8) := by kernel_rfl
theorem row_up {w : World} {lo lo' : Nat} {e : TypeId} {size : Nat} {v : Value} {n : Nat} {xs : List Value} (h : w.ownsRow lo e size v n xs) (hl : lo' ≤ lo) : w.ownsRow lo' e size v n xs := by
  refine ⟨h.1, h.2.imp id ?_⟩
  rintro ⟨g, cap, cur, rfl, h3, h4, h5⟩
  exact ⟨g, cap, cur, rfl, Nat.le_trans hl h3, h4, h5⟩
theorem range_left {w : World} {g o : Nat} {xs ys : List Value} (h : w.rangeAt g o (xs ++ ys)) : w.rangeAt g o xs := fun j v hj => h j v (by rw [List.getElem?_append_left (List.getElem?_eq_some_iff.1 hj).1]; exact hj)
theorem range_heap {w : World} {g : Nat} {cs : List Value} {t : TypeId} {f : Nat × Nat} (h : w.heap[g]? = some (.cells cs.toArray t f)) : w.rangeAt g 0 cs := fun j v hj => cell_of_heap h (by rw [Nat.zero_add, List.getElem?_toArray]; exact hj)
theorem range_up {w w' : World} (hb : Below w.heap.size w w') {g o : Nat} {cs : List Value} (h : w.rangeAt g o cs) : w'.rangeAt g o cs := fun j v hj => up_cell hb (h j v hj)
theorem leafs_len (E : List (List UInt8)) : Len32 (E.map leaf) := fun h hh => by obtain ⟨b, _, rfl⟩ := List.mem_map.1 hh; exact leaf_len b
theorem wp_of_exec {P : Program} {o : Oper} {a : Act} {w w' : World} {K : Act → World → Prop} {Q : Exit → Act → World → Prop} {v : Value} (h : (execOp a.eval o).run P w = .ok (.value v) w') (hk : K (a.put o.dst v) w') : o.wp P a w K Q := by
  unfold Oper.wp; rw [h]; exact hk
theorem exec_bslice {P : Program} {op : Oper} {a : Act} {w w' : World} (t : TypeId) (n : Nat) (parts : Array (Nat × Operand)) (ho : op.op = .buildSlice t n parts) (v : Value) (hr : (Instr.buildSlice t n (parts.map fun (i, x) => (i, a.eval x))).run P w = .ok v w') : (execOp a.eval op).run P w = .ok (.value v) w' := by
  simp [execOp, ho, hr, Result.andThen]
theorem exec_build {P : Program} {op : Oper} {a : Act} {w : World} (t : TypeId) (parts : Array (Nat × Operand)) (ho : op.op = .build t parts) (cells : Array Value) (hc : P.built t (parts.map fun (i, x) => (i, a.eval x)).toList = some cells) : (execOp a.eval op).run P w = .ok (.value (.agg cells)) w := by
  have := run_build w t (parts.map fun (i, x) => (i, a.eval x)) cells hc
  simp [execOp, ho, this, Result.andThen]
theorem lay_whole {vs cs : List Value} (h : vs.length = cs.length) : lay cs 0 vs = vs := by
  rw [lay_eq _ _ _ (by omega), List.take_zero, List.nil_append, List.drop_of_length_le (by omega), List.append_nil]
theorem flat_take {L : List PN} (h : Ok32 L) : ∀ k, (L.flatMap fc).take (k * 33) = (L.take k).flatMap fc ∧ (L.flatMap fc).drop (k * 33) = (L.drop k).flatMap fc := by
  induction L with
  | nil => intro k; simp
  | cons p L ih =>
    intro k
    cases k with
    | zero => simp
    | succ k =>
      have hp := fc_len (h p (List.mem_cons_self ..))
      obtain ⟨i1, i2⟩ := ih (fun x hx => h x (List.mem_cons_of_mem _ hx)) k
      rw [List.flatMap_cons, List.take_succ_cons, List.drop_succ_cons, List.flatMap_cons, ← i1, ← i2, show (k + 1) * 33 = (fc p).length + k * 33 by omega, List.take_length_add_append, List.drop_length_add_append]
      exact ⟨rfl, rfl⟩
theorem below_wdrew {w w' : World} {n : Nat} (h : Below n w w') : Below n w w'.drew := ⟨h.os, h.tape, h.output, h.size, h.block⟩
theorem iv_one1 {n : Nat} : ∀ u ∈ [iv n], u.oneCell' = true := fun u hu => by simp at hu; subst hu; rfl
/-- those that have these bytes -/
def ofN (E : List (List UInt8)) (d : List UInt8) : List Nat := (E.zipIdx.filter fun p => decide (p.1 = d)).map (·.2)
theorem ofN_likes (E : List (List UInt8)) (d : List UInt8) : ofN E d = (likes (E.map leaf) (leaf d)).filter fun n => E.getD n [] == d := by
  unfold ofN likes
  rw [List.zipIdx_map]
  simp only [List.filter_map, List.map_map, List.filter_filter, Function.comp_def, Prod.map, id_eq]
  have h1 : ∀ p ∈ E.zipIdx, E[p.2]? = some p.1 := fun p hp => List.mem_zipIdx_iff_getElem?.1 hp
  refine congrArg _ (List.filter_congr (fun p hp => ?_))
  have h2 := h1 p hp
  have h3 : E.getD p.2 [] = p.1 := by simp [List.getD, h2]
  simp only [h3]
  by_cases e : p.1 = d
  · simp [e]
  · simp [e]
theorem at_len {E : List (List UInt8)} {d : List UInt8} {n : Nat} (h : n ∈ likes (E.map leaf) d) : n < E.length := by
  have := (List.getElem?_eq_some_iff.1 (likes_mem.1 h)).1
  simpa using this
theorem of_any {F G : Nat → Prop} {w : World} {bx : Nat} {E : List (List UInt8)} {ua : Option Addr} {uc : Nat} {d : List UInt8} (h : XAt F G w bx E) (hE : E.length ≤ 4194304) (hd : RowAt w ua (d.map bv)) (hdc : d.length ≤ uc) (hdn : ∀ x, ua = some x → d ≠ [] → x.block < w.heap.size) (hdl : d.length ≤ 1099511626000) :
    Calls Try.prog 21 #[.pointer (some ⟨bx, 0, none⟩), .slice ua d.length uc] w fun e w' => ∃ v, e = .returned v ∧ w'.ownsRow w.heap.size 3 1 v (ofN E d).length ((ofN E d).map iv) ∧ Below w.heap.size w w' := by
  have hmax : maxLen = 9223372036854775807 := rfl
  obtain ⟨i2, hi2, hv0, hv1, hv2⟩ := info_parts Try.info3
  obtain ⟨w1, hw1, hb1, hz1, hx1⟩ := al1 w #[] 3
  obtain ⟨ve, vo, vm, hX⟩ := h
  have cm := up_cell hb1 (ce2 hX.cell)
  have c0 := ce0 hX.cell
  obtain ⟨vl, hvl, hvF, hrun⟩ := hX.look (leaf_len d)
  obtain ⟨ea, ec, rfl, hec, hen, hread⟩ := hX.ents.read
  obtain ⟨l, hl⟩ : ∃ l, likes (E.map leaf) (leaf d) = l := ⟨_, rfl⟩
  have hin : ∀ n ∈ l, n < E.length := fun n hn => at_len (d := leaf d) (by rw [hl]; exact hn)
  have hof := ofN_likes E d
  rw [hl] at hof hvl
  have hll : l.length ≤ E.length := by
    have := likes_len (E.map leaf) (leaf d)
    rw [hl, List.length_map] at this
    exact this
  obtain ⟨la, lk, rfl, hlc, hln, hlr, -⟩ := row_slice2 hvl
  have cL := hashLeaf_any (w := w1.drew) (b := d) (a := ua) (c := uc) ((hd.below hb1).below (below_wdrew (Below.refl _ _))) hdc (fun x hx hne => by have := hdn x hx hne; show _ < w1.heap.size; omega) hdl
  have hms := (MapSame.refl w vm).below hb1
  have hr0 : w1.ownsRow w.heap.size 3 1 (.slice (some ⟨w.heap.size, 0, none⟩) 0 0) 0 [] := by rw [← hw1]; exact World.ownsRow_made (base := w.heap.size) w #[] 0 (Nat.le_refl _) (Nat.zero_le _) (by simp)
  rw [hof]
  have HX := Lib.hid (And.intro hb1 (And.intro hread (And.intro hlr (And.intro hd (And.intro hin hr0)))))
  unfold hashV at cL hrun
  clear hX hvl hvF hread hlr hd hdn hof hl hb1 hx1 hz1 hin hr0
  go_enter Try.func21, Try.ntmps21
  go_upto_region 4 with fail
  refine wp_region_held_drew (S := fun w' => w'.cell? ⟨bx, 2, none⟩ = some vm ∧ MapSame w vm w') (by kernel_rfl) ⟨cm, hms⟩ (fun hHeld => ?_)
  refine tk 0 ?_ hHeld (fun w' hSw => ?_) ?_; rotate_left
  · (go_simp; all_goals (with_reducible rfl))
  (try simp only [Act.put, Zz])
  refine tk 1 ?_ hHeld (fun w' hSw => ?_) ?_; rotate_left
  · (go_simp; all_goals (with_reducible rfl))
  (try simp only [Act.put, Zz])
  refine tk 2 ?_ hHeld (fun w' hSw => ?_) ?_; rotate_left
  · (go_simp; all_goals (with_reducible rfl))
  (try simp only [Act.put, Zz])
  refine tk 3 ?_ hHeld (fun w' hSw => ?_) ?_; rotate_left
  · (have h1 := hSw.1; go_simp; all_goals (with_reducible rfl))
  (try simp only [Act.put, Zz])
  refine tk 4 ?_ hHeld (fun w' hSw => ?_) ?_; rotate_left
  · (go_simp; all_goals (with_reducible rfl))
  (try simp only [Act.put, Zz])
  refine tk 8 ?_ hHeld (fun w' hSw => ?_) ?_; rotate_left
  · (go_simp; all_goals (with_reducible rfl))
  (try simp only [Act.put, Zz])
  refine wpAnyH_ready (rs := [5]) (by kernel_rfl) (by simp) ?_
  refine AllReadyH.cons rfl (fun K hK => ?_) AllReadyH.nil
  go_simp
  ((with_reducible refine cL.mono ?_); rintro _ w5 ⟨rfl, hb5⟩)
  replace hb5 := drew_below hb5
  refine hK.out _ _ (⟨up_cell hb5 cm, hms.below hb5⟩) (fun hHeld => ?_)
  clear hK K
  (try simp only [Act.put, Zz])
  refine tk 6 (.slice la l.length lk) hHeld (fun w' hSw => exec_lookup 56 (.tmp 15) (.tmp 17) rfl _ _ _ rfl rfl (hrun w' hSw.2)) ?_
  (try simp only [Act.put, Zz])
  refine tk 7 ?_ hHeld (fun w' hSw => ?_) ?_; rotate_left
  · (go_simp; all_goals (with_reducible rfl))
  (try simp only [Act.put, Zz])
  refine wpAnyH_done (by kernel_rfl) ?_ _
  (try simp only [Act.put, Zz])
  clear hHeld
  have H5 := Lib.hid (HX.out.1.trans (hb5.mono HX.out.1.size))
  have HR5 := Lib.hid (row_below HX.out.2.2.2.2.2 hb5)
  clear cm hms cL hb5
  go_wp2
  go_loopw [5, 20] (fun v i wr => ∃ k : Nat, k ≤ l.length ∧ i = .int .i64 k ∧ Hid (wr.ownsRow w.heap.size 3 1 v ((l.take k).filter (fun n => E.getD n [] == d)).length (((l.take k).filter (fun n => E.getD n [] == d)).map iv)) ∧ Below w.heap.size w wr) (fun _ i _ => l.length - (RowKit.intOf i).toNat)
  case atStart => exact ⟨0, by omega, rfl, HR5, H5.out⟩
  case round =>
    obtain ⟨k, hk, rfl, HR, hbw⟩ := hrel
    have hfl : ((l.take k).filter (fun n => E.getD n [] == d)).length ≤ k := Nat.le_trans (List.length_filter_le _ _) (by simp; omega)
    obtain ⟨f, hf⟩ : ∃ f, (l.take k).filter (fun n => E.getD n [] == d) = f := ⟨_, rfl⟩
    rw [hf] at HR hfl
    obtain ⟨fa, fk, rfl⟩ := row_slice HR.out
    have HF2 := Lib.hid hf
    clear hf
    by_cases hlt : k < l.length
    · obtain ⟨n, hn⟩ : ∃ n, l[k]? = some n := ⟨_, List.getElem?_eq_getElem hlt⟩
      have hnE := HX.out.2.2.2.2.1 n (List.mem_of_getElem? hn)
      obtain ⟨lb, lo, rfl, hlcell⟩ := (HX.out.2.2.1.below hbw) (by intro e; have := congrArg List.length e; simp at this; subst this; simp at hlt)
      have q1 := hlcell k (iv n) (by rw [List.getElem?_map, hn]; rfl)
      unfold iv at q1
      obtain ⟨eb, eo, rfl, _, _, hecell⟩ := (HX.out.2.1.below hbw) (fun e => by rw [e] at hnE; simp at hnE)
      obtain ⟨x, hx⟩ : ∃ x, E[n]? = some x := ⟨_, List.getElem?_eq_getElem hnE⟩
      obtain ⟨xa, xc, q2, x2, x3, x4, x5⟩ := hecell n x hx
      have q0 := up_cell hbw c0
      have cE := Equal_any (w := wr) (c := xc) (d := uc) x2 (HX.out.2.2.2.1.below hbw)
      have hgx : E.getD n [] = x := by simp [List.getD, hx]
      have j0 : (0 : Int) ≤ (k : Int) := by omega
      have j1 : (k : Int) < (l.length : Int) := by omega
      have j2 : (0 : Int) ≤ (n : Int) := by omega
      have j3 : (n : Int) < (E.length : Int) := by omega
      have hft : (l.take (k + 1)).filter (fun n => E.getD n [] == d) = (l.take k).filter (fun n => E.getD n [] == d) ++ (if (x == d) = true then [n] else []) := by
        rw [List.take_add_one, hn, List.filter_append]
        congr 1
        show List.filter _ [n] = _
        rw [List.filter_cons, List.filter_nil]
        simp only [hgx]
      rw [HF2.out] at hft
      have HF := Lib.hid hft
      clear hlcell hecell x2 x3 x4 x5 hft hn hx hgx
      cases hxd : (x == d) with
      | true =>
        rw [hxd] at cE
        obtain ⟨w6, hw6, hb6, hz6, hx6⟩ := al1 wr #[.int .i64 (n : Int)] 3
        have hr6 := row_below HR.out hb6
        have HB := Lib.hid (hbw.trans (hb6.mono hbw.size))
        have HD := Lib.hid hxd
        clear hxd hbw hb6 hz6
        go_wp2_with (first
          | (refine cE.mono ?_; rintro _ w5' ⟨rfl, rfl⟩)
          | (at_builtin; refine wpList_append_anyK _ rfl (.tmp 33) (.tmp 35) 41 rfl w.heap.size 3 i2 (.int .i64 0) 1 8 Try.underlying41 hi2 hv0 hv1 hv2 rfl (by decide) _ f.length (f.map iv) rfl hr6 (some ⟨wr.heap.size, 0, none⟩) 1 1 [iv n] rfl rfl (fun e => by cases e) (RowAt.of_row fun j u hu => by cases j with | zero => (simp at hu; subst hu; exact ce0 hx6) | succ j => simp at hu) iv_one1 (by omega) (by omega) HB.out.size ?_; intro v8 w8 hr8 hg8))
        have hb8 : Below w.heap.size w w8 := HB.out.grown hg8 HB.out.size (fun b hb => (hr6.lt b hb).1)
        have H8 := Lib.hid (And.intro hr8 hb8)
        clear hr8 hb8 hg8 hr6 hx6
        go_wp2
        go_roundw
        case rel => exact ⟨k + 1, by omega, by go_num, Lib.hid (by rw [HF.out, HD.out]; simpa using H8.out.1), H8.out.2⟩
        case measure => simp [RowKit.intOf]; omega
      | false =>
        rw [hxd] at cE
        have HD := Lib.hid hxd
        clear hxd
        go_wp2_with (refine cE.mono ?_; rintro _ w5' ⟨rfl, rfl⟩)
        go_roundw
        case rel => exact ⟨k + 1, by omega, by go_num, Lib.hid (by rw [HF.out, HD.out]; simpa using HR.out), hbw⟩
        case measure => simp [RowKit.intOf]; omega
    · have e : k = l.length := by omega
      subst e
      have hf := HF2.out
      rw [List.take_length] at hf
      have HB := Lib.hid hbw
      clear hbw
      go_wp2
      go_ret
      exact ⟨_, rfl, by rw [hf]; exact HR.out, HB.out⟩

/- Find: bits cleared, digits: the plain law. -/
open Go.RowKit Go.Maps

/-! ### bits cleared; digits -/
theorem clr_byte : ∀ (a : Fin 256) (j k : Fin 8), (a.val &&& (255 - 2 ^ (7 - j.val))) / 2 ^ (7 - k.val) % 2 = if k = j then 0 else a.val / 2 ^ (7 - k.val) % 2 := by decide +kernel
theorem clr_lt (a b : Nat) (h : a < 256) : a &&& b < 256 := Nat.lt_of_le_of_lt Nat.and_le_left h
/-- a bit of a hash is cleared -/
def clrAt (l : List UInt8) (i : Nat) : List UInt8 := l.set (i / 8) (UInt8.ofNat ((l.getD (i / 8) 0).toNat &&& (255 - 2 ^ (7 - i % 8))))
theorem clrAt_len (l : List UInt8) (i : Nat) : (clrAt l i).length = l.length := by simp [clrAt]
theorem clrAt_bit {l : List UInt8} (hl : l.length = 32) {i k : Nat} (hi : i < 256) (hk : k < 256) : bitAt (clrAt l i) k = if k = i then 0 else bitAt l k := by
  unfold bitAt clrAt
  have h1 : i / 8 < l.length := by omega
  rw [List.getD_eq_getElem?_getD (l := l.set _ _), List.getElem?_set]
  by_cases e : i / 8 = k / 8
  · rw [if_pos e, if_pos h1, Option.getD_some, UInt8.toNat_ofNat_of_lt' (clr_lt _ _ (UInt8.toNat_lt _))]
    have h2 := clr_byte ⟨_, (l.getD (i / 8) 0).toNat_lt⟩ ⟨i % 8, by omega⟩ ⟨k % 8, by omega⟩
    simp only [Fin.mk.injEq] at h2
    rw [h2, e]
    by_cases e2 : k = i
    · rw [if_pos (by omega), if_pos e2]
    · rw [if_neg (by omega), if_neg e2]
  · rw [if_neg e, if_neg (by intro h; rw [h] at e; exact e rfl), ← List.getD_eq_getElem?_getD]
/-- the bits from b on up to i are cleared -/
def clrTo (l : List UInt8) (b : Nat) : Nat → List UInt8
  | 0 => l
  | n + 1 => clrAt (clrTo l b n) (b + n)
theorem clrTo_len (l : List UInt8) (b : Nat) : ∀ n, (clrTo l b n).length = l.length
  | 0 => rfl
  | n + 1 => by rw [clrTo, clrAt_len, clrTo_len l b n]
theorem clrTo_bit {l : List UInt8} (hl : l.length = 32) (b : Nat) : ∀ n, b + n ≤ 256 → ∀ k, k < 256 → bitAt (clrTo l b n) k = if b ≤ k ∧ k < b + n then 0 else bitAt l k
  | 0, _, k, _ => by rw [if_neg (by omega)]; rfl
  | n + 1, h, k, hk => by
    rw [clrTo, clrAt_bit (by rw [clrTo_len, hl]) (by omega) hk, clrTo_bit hl b n (by omega) k hk]
    by_cases e : k = b + n
    · rw [if_pos e, if_pos (by omega)]
    · rw [if_neg e]
      by_cases e2 : b ≤ k ∧ k < b + n
      · rw [if_pos e2, if_pos (by omega)]
      · rw [if_neg e2, if_neg (by omega)]
/-- the program's answer of Bits -/
theorem bits_is {H : List (List UInt8)} (hl : Len32 H) {h : List UInt8} (hh : h.length = 32) {b : Nat} (hb : b ≤ 256) : (gath (ordN H) (clrTo h b (256 - b)) b).Perm (bitsN H h b) := by
  refine gath_perm hl hh (by rw [clrTo_len, hh]) hb (fun k hk => ?_) (fun k h1 h2 => ?_)
  · rw [clrTo_bit hh b _ (by omega) k (by omega), if_neg (by omega)]
  · rw [clrTo_bit hh b _ (by omega) k h2, if_pos (by omega)]

def hexD (c : UInt8) : Option Nat := if 48 ≤ c.toNat ∧ c.toNat ≤ 57 then some (c.toNat - 48) else if 97 ≤ c.toNat ∧ c.toNat ≤ 102 then some (c.toNat - 87) else none
def hexC (n : Nat) : UInt8 := UInt8.ofNat (if n < 10 then n + 48 else n + 87)
theorem hexC_toNat : ∀ n : Fin 16, (hexC n.val).toNat = if n.val < 10 then n.val + 48 else n.val + 87 := by decide +kernel
theorem hexD_lt {c : UInt8} {n : Nat} (h : hexD c = some n) : n < 16 := by
  unfold hexD at h
  split at h
  · cases h; omega
  · split at h
    · cases h; omega
    · cases h
theorem hexD_iff {c : UInt8} {n m : Nat} (h : hexD c = some n) (hm : m < 16) : hexC m = c ↔ m = n := by
  have h1 := hexC_toNat ⟨m, hm⟩
  rw [← UInt8.toNat_inj, h1]
  unfold hexD at h
  simp only
  split at h
  · cases h; split <;> omega
  · split at h
    · cases h; split <;> omega
    · cases h
/-- half a byte of a hash -/
def nib (l : List UInt8) (i : Nat) : Nat := if i % 2 = 0 then (l.getD (i / 2) 0).toNat / 16 else (l.getD (i / 2) 0).toNat % 16
theorem nib_lt (l : List UInt8) (i : Nat) : nib l i < 16 := by
  have := (l.getD (i / 2) 0).toNat_lt
  unfold nib
  split <;> omega
theorem bit_nib_byte : ∀ (a : Fin 256) (k : Fin 8), a.val / 2 ^ (7 - k.val) % 2 = (if k.val / 4 = 0 then a.val / 16 else a.val % 16) / 2 ^ (3 - k.val % 4) % 2 := by decide +kernel
theorem bit_nib (l : List UInt8) (k : Nat) : bitAt l k = nib l (k / 4) / 2 ^ (3 - k % 4) % 2 := by
  have h := bit_nib_byte ⟨_, (l.getD (k / 8) 0).toNat_lt⟩ ⟨k % 8, by omega⟩
  simp only at h
  unfold bitAt nib
  rw [h, show k / 4 / 2 = k / 8 by omega, show k % 8 % 4 = k % 4 by omega]
  by_cases e : k / 4 % 2 = 0
  · rw [if_pos e, if_pos (by omega)]
  · rw [if_neg e, if_neg (by omega)]
theorem nib_bits : ∀ a b : Fin 16, (∀ k : Fin 4, a.val / 2 ^ (3 - k.val) % 2 = b.val / 2 ^ (3 - k.val) % 2) → a = b := by decide +kernel
theorem share_nib {x y : List UInt8} {n : Nat} (hn : n ≤ 64) : 4 * n ≤ shareN x y ↔ ∀ i, i < n → nib x i = nib y i := by
  rw [shareN_ge (by omega)]
  constructor
  · intro h i hi
    have := nib_bits ⟨nib x i, nib_lt x i⟩ ⟨nib y i, nib_lt y i⟩ (fun k => by
      have hk := h (4 * i + k.val) (by omega)
      rw [bit_nib, bit_nib, show (4 * i + k.val) / 4 = i by omega, show (4 * i + k.val) % 4 = k.val by omega] at hk
      exact hk)
    simpa using this
  · intro h k hk
    rw [bit_nib, bit_nib, h (k / 4) (by omega)]
/-- a hash as text -/
def textN (l : List UInt8) : List UInt8 := (List.range 64).map fun i => hexC (nib l i)
/-- what digits say, as a hash -/
def hexL (s : List UInt8) : List UInt8 := (List.range 32).map fun j => UInt8.ofNat (16 * ((s[2 * j]?.bind hexD).getD 0) + (s[2 * j + 1]?.bind hexD).getD 0)
theorem hexL_len (s : List UInt8) : (hexL s).length = 32 := by simp [hexL]
theorem hexS_lt (s : List UInt8) (i : Nat) : (s[i]?.bind hexD).getD 0 < 16 := by
  cases h : s[i]?.bind hexD with
  | none => decide
  | some n =>
    obtain ⟨c, _, hc⟩ := Option.bind_eq_some_iff.1 h
    exact hexD_lt hc
theorem hexL_nib (s : List UInt8) {i : Nat} (hi : i < 64) : nib (hexL s) i = (s[i]?.bind hexD).getD 0 := by
  have h1 := hexS_lt s (2 * (i / 2))
  have h2 := hexS_lt s (2 * (i / 2) + 1)
  have e : (hexL s).getD (i / 2) 0 = UInt8.ofNat (16 * ((s[2 * (i / 2)]?.bind hexD).getD 0) + (s[2 * (i / 2) + 1]?.bind hexD).getD 0) := by
    unfold hexL
    rw [List.getD_eq_getElem?_getD, List.getElem?_map, List.getElem?_range (by omega)]
    rfl
  unfold nib
  rw [e, UInt8.toNat_ofNat_of_lt' (by show _ < 256; omega)]
  by_cases e2 : i % 2 = 0
  · rw [if_pos e2, show 2 * (i / 2) = i by omega] at *
    omega
  · rw [if_neg e2, show 2 * (i / 2) + 1 = i by omega] at *
    omega
theorem text_is {x s : List UInt8} (hs : s.length ≤ 64) (hd : ∀ c ∈ s, (hexD c).isSome = true) : (textN x).take s.length = s ↔ 4 * s.length ≤ shareN x (hexL s) := by
  rw [share_nib hs]
  have key : ∀ i (hi : i < s.length), (hexC (nib x i) = s[i] ↔ nib x i = nib (hexL s) i) := fun i hi => by
    rw [hexL_nib s (by omega), List.getElem?_eq_getElem hi]
    obtain ⟨n, hn⟩ := Option.isSome_iff_exists.1 (hd _ (List.getElem_mem hi))
    rw [Option.bind_some, hn]
    exact hexD_iff hn (nib_lt x i)
  constructor
  · intro h i hi
    refine (key i hi).1 ?_
    have := congrArg (fun l => l[i]?) h
    simp only [textN, List.getElem?_take, hi, if_true, List.getElem?_map, List.getElem?_eq_getElem hi] at this
    rw [List.getElem?_range (by omega)] at this
    simpa using this
  · intro h
    apply List.ext_getElem?
    intro i
    by_cases hi : i < s.length
    · rw [List.getElem?_take, if_pos hi, textN, List.getElem?_map, List.getElem?_range (by omega), List.getElem?_eq_getElem hi]
      exact congrArg some ((key i hi).2 (h i hi))
    · rw [List.getElem?_take, if_neg hi, List.getElem?_eq_none (by omega)]

/- Find: the document's Text, Same. (printed by gen/textx.py) -/

def hexS : ByteArray := ⟨#[48, 49, 50, 51, 52, 53, 54, 55, 56, 57, 97, 98, 99, 100, 101, 102]⟩
theorem run_hexdig {m : Nat} (h : m < 16) (W : World) : (Instr.slice 9 (.string hexS) (some (.int .u8 (m : Int))) (some (.int .u8 ((m : Int) + 1))) none).run Try.prog W = .ok (.string ⟨#[hexC m]⟩) W := by
  have : m = 0 ∨ m = 1 ∨ m = 2 ∨ m = 3 ∨ m = 4 ∨ m = 5 ∨ m = 6 ∨ m = 7 ∨ m = 8 ∨ m = 9 ∨ m = 10 ∨ m = 11 ∨ m = 12 ∨ m = 13 ∨ m = 14 ∨ m = 15 := by omega
  rcases this with rfl | rfl | rfl | rfl | rfl | rfl | rfl | rfl | rfl | rfl | rfl | rfl | rfl | rfl | rfl | rfl <;> rfl
theorem str_app (a b : List UInt8) : (⟨a.toArray⟩ : ByteArray) ++ (⟨b.toArray⟩ : ByteArray) = ⟨(a ++ b).toArray⟩ := by
  apply ByteArray.ext
  simp
/-- the text of the first k bytes -/
def textTo (l : List UInt8) (k : Nat) : List UInt8 := (List.range (2 * k)).map fun i => hexC (nib l i)
theorem textTo_step (l : List UInt8) (k : Nat) {a : UInt8} (ha : l[k]? = some a) : textTo l (k + 1) = (textTo l k ++ [hexC (a.toNat / 16)]) ++ [hexC (a.toNat % 16)] := by
  unfold textTo
  rw [show 2 * (k + 1) = (2 * k + 1) + 1 by omega, List.range_succ, List.range_succ]
  simp only [List.map_append, List.map_cons, List.map_nil]
  have e1 : nib l (2 * k) = a.toNat / 16 := by
    unfold nib
    rw [if_pos (by omega), show 2 * k / 2 = k by omega, List.getD_eq_getElem?_getD, ha]; rfl
  have e2 : nib l (2 * k + 1) = a.toNat % 16 := by
    unfold nib
    rw [if_neg (by omega), show (2 * k + 1) / 2 = k by omega, List.getD_eq_getElem?_getD, ha]; rfl
  rw [e1, e2]
theorem rtext_any {w : World} {l : List UInt8} (hl : l.length = 32) : Calls Try.prog 30 #[hashV l] w fun e w' => e = .returned (.string ⟨(textN l).toArray⟩) ∧ Below w.heap.size w w' := by
  obtain ⟨w1, hw1, hb1, hz1, hx1⟩ := al1 w (l.map bv).toArray 33
  have HX := Lib.hid (And.intro hl (And.intro hb1 hx1))
  unfold hashV
  clear hl hb1 hz1
  go_enter Try.func30, Try.ntmps30
  go_wp2
  go_loopw [3, 4] (fun v i wr => ∃ k : Nat, k ≤ 32 ∧ i = .int .i64 k ∧ (∃ t, textTo l k = t ∧ v = .string ⟨t.toArray⟩) ∧ ∃ q, wr = w1.drewN q) (fun _ i _ => 32 - (RowKit.intOf i).toNat)
  case atStart => exact ⟨0, by omega, rfl, ⟨[], rfl, rfl⟩, 0, rfl⟩
  case round =>
    obtain ⟨k, hk, rfl, ⟨t, ht, rfl⟩, q, rfl⟩ := hrel
    by_cases hlt : k < 32
    · obtain ⟨c, hc⟩ : ∃ c, l[k]? = some c := ⟨_, List.getElem?_eq_getElem (by rw [HX.out.1]; exact hlt)⟩
      have hst := textTo_step l k hc
      obtain ⟨a, ha⟩ : ∃ a, c.toNat = a := ⟨_, rfl⟩
      have ha256 : a < 256 := by rw [← ha]; exact c.toNat_lt
      have qa := cell_of_heap (w := w1.drewN q) HX.out.2.2 (i := k) (v := .int .u8 (a : Int)) (by rw [List.getElem?_toArray, List.getElem?_map, hc, ← ha]; rfl)
      obtain ⟨m, hm⟩ : ∃ m, a / 16 = m := ⟨_, rfl⟩
      obtain ⟨n, hn⟩ : ∃ n, a % 16 = n := ⟨_, rfl⟩
      have hm16 : m < 16 := by omega
      have hn16 : n < 16 := by omega
      rw [ha, ht, hm, hn] at hst
      have r1 := fun W => run_hexdig hm16 W
      have r2 := fun W => run_hexdig hn16 W
      have e1 : (a : Int) / 16 = (m : Int) := by omega
      have e2 : (a : Int) % 16 = (n : Int) := by omega
      have e3 : Int.tdiv (a : Int) 16 = (m : Int) := by rw [Int.tdiv_eq_ediv_of_nonneg (by omega)]; exact e1
      have e4 : Int.tmod (a : Int) 16 = (n : Int) := by rw [Int.tmod_eq_emod_of_nonneg (by omega)]; exact e2
      have e5 : IntKind.u8.wrap (m : Int) = (m : Int) := by rw [IntKind.wrap_u8']; omega
      have e6 : IntKind.u8.wrap ((m : Int) + 1) = (m : Int) + 1 := by rw [IntKind.wrap_u8']; omega
      have e7 : IntKind.u8.wrap ((n : Int) + 1) = (n : Int) + 1 := by rw [IntKind.wrap_u8']; omega
      have s1 := str_app t [hexC m]
      have s2 := str_app (t ++ [hexC m]) [hexC n]
      rw [← hst] at s2
      have htl : t.length = 2 * k := by rw [← ht]; simp [textTo]
      have e8 : ¬ 9223372036854775807 < t.length + 1 := by omega
      have e9 : ¬ 9223372036854775807 < t.length + 1 + 1 := by omega
      have e10 : ¬ 9223372036854775807 < (t ++ [hexC m]).length + 1 := by simp; omega
      have HS := Lib.hid hst
      have i1 : (0 : Int) ≤ (k : Int) := by omega
      have i2 : (k : Int) < 32 := by omega
      unfold hexS at r1 r2
      clear hc ha hm hn hst ht htl
      go_upto_region 5 with fail
      refine wp_region_held_drew (S := fun w' => w'.cell? ⟨w.heap.size, k, none⟩ = some (.int .u8 (a : Int))) (by kernel_rfl) qa (fun hHeld => ?_)
      refine tk 0 ?_ hHeld (fun w' hSw => ?_) ?_; rotate_left
      · (have h1 := hSw; go_simp; all_goals (with_reducible rfl))
      (try simp only [Act.put, Zz])
      refine tk 1 ?_ hHeld (fun w' hSw => ?_) ?_; rotate_left
      · (have h1 := hSw; go_simp; all_goals (with_reducible rfl))
      (try simp only [Act.put, Zz])
      refine tk 2 ?_ hHeld (fun w' hSw => ?_) ?_; rotate_left
      · (have h1 := hSw; go_simp; all_goals (with_reducible rfl))
      (try simp only [Act.put, Zz])
      refine tk 3 ?_ hHeld (fun w' hSw => ?_) ?_; rotate_left
      · (have h1 := hSw; go_simp; all_goals (with_reducible rfl))
      (try simp only [Act.put, Zz])
      refine tk 4 ?_ hHeld (fun w' hSw => ?_) ?_; rotate_left
      · (have h1 := hSw; go_simp; all_goals (with_reducible rfl))
      (try simp only [Act.put, Zz])
      refine tk 5 ?_ hHeld (fun w' hSw => ?_) ?_; rotate_left
      · (have h1 := hSw; go_simp; all_goals (with_reducible rfl))
      (try simp only [Act.put, Zz])
      refine tk 6 ?_ hHeld (fun w' hSw => ?_) ?_; rotate_left
      · (have h1 := hSw; go_simp; all_goals (with_reducible rfl))
      (try simp only [Act.put, Zz])
      refine tk 7 ?_ hHeld (fun w' hSw => ?_) ?_; rotate_left
      · (have h1 := hSw; go_simp; all_goals (with_reducible rfl))
      (try simp only [Act.put, Zz])
      refine tk 8 ?_ hHeld (fun w' hSw => ?_) ?_; rotate_left
      · (have h1 := hSw; go_simp; all_goals (with_reducible rfl))
      (try simp only [Act.put, Zz])
      refine tk 9 ?_ hHeld (fun w' hSw => ?_) ?_; rotate_left
      · (have h1 := hSw; go_simp; all_goals (with_reducible rfl))
      (try simp only [Act.put, Zz])
      refine tk 10 ?_ hHeld (fun w' hSw => ?_) ?_; rotate_left
      · (have h1 := hSw; go_simp; all_goals (with_reducible rfl))
      (try simp only [Act.put, Zz])
      refine tk 11 ?_ hHeld (fun w' hSw => ?_) ?_; rotate_left
      · (have h1 := hSw; go_simp; all_goals (with_reducible rfl))
      (try simp only [Act.put, Zz])
      refine tk 12 ?_ hHeld (fun w' hSw => ?_) ?_; rotate_left
      · (have h1 := hSw; go_simp; all_goals (with_reducible rfl))
      (try simp only [Act.put, Zz])
      refine tk 13 ?_ hHeld (fun w' hSw => ?_) ?_; rotate_left
      · (have h1 := hSw; go_simp; all_goals (with_reducible rfl))
      (try simp only [Act.put, Zz])
      refine tk 14 ?_ hHeld (fun w' hSw => ?_) ?_; rotate_left
      · (have h1 := hSw; go_simp; all_goals (with_reducible rfl))
      (try simp only [Act.put, Zz])
      refine tk 15 ?_ hHeld (fun w' hSw => ?_) ?_; rotate_left
      · (have h1 := hSw; go_simp; all_goals (with_reducible rfl))
      (try simp only [Act.put, Zz])
      refine tk 16 ?_ hHeld (fun w' hSw => ?_) ?_; rotate_left
      · (have h1 := hSw; go_simp; all_goals (with_reducible rfl))
      (try simp only [Act.put, Zz])
      refine tk 17 ?_ hHeld (fun w' hSw => ?_) ?_; rotate_left
      · (have h1 := hSw; go_simp; all_goals (with_reducible rfl))
      (try simp only [Act.put, Zz])
      refine tk 18 ?_ hHeld (fun w' hSw => ?_) ?_; rotate_left
      · (have h1 := hSw; go_simp; all_goals (with_reducible rfl))
      (try simp only [Act.put, Zz])
      refine tk 19 ?_ hHeld (fun w' hSw => ?_) ?_; rotate_left
      · (have h1 := hSw; go_simp; all_goals (with_reducible rfl))
      (try simp only [Act.put, Zz])
      refine tk 20 ?_ hHeld (fun w' hSw => ?_) ?_; rotate_left
      · (have h1 := hSw; go_simp; all_goals (with_reducible rfl))
      (try simp only [Act.put, Zz])
      refine tk 21 ?_ hHeld (fun w' hSw => ?_) ?_; rotate_left
      · (have h1 := hSw; go_simp; all_goals (with_reducible rfl))
      (try simp only [Act.put, Zz])
      refine tk 22 ?_ hHeld (fun w' hSw => ?_) ?_; rotate_left
      · (have h1 := hSw; go_simp; all_goals (with_reducible rfl))
      (try simp only [Act.put, Zz])
      refine tk 23 ?_ hHeld (fun w' hSw => ?_) ?_; rotate_left
      · (have h1 := hSw; go_simp; all_goals (with_reducible rfl))
      (try simp only [Act.put, Zz])
      refine wpAnyH_done (by kernel_rfl) ?_ _
      (try simp only [Act.put, Zz])
      clear hHeld
      go_wp2
      go_roundw
      case rel => exact ⟨k + 1, by omega, by go_num, ⟨_, HS.out, by first | rfl | (rw [HS.out])⟩, _, by first | rfl | (simp only [World.drewN_drewN]; rfl)⟩
      case measure => simp [RowKit.intOf]; omega
    · have e : k = 32 := by omega
      subst e
      have HT := Lib.hid ht
      clear ht
      go_wp2
      go_ret
      refine ⟨?_, below_drewN HX.out.2.1 _⟩
      have : textN l = t := HT.out
      rw [this]
      rfl
/-- two lists of numbers -/
theorem same_any {w : World} {a b : Option Addr} {c d : Nat} {l m : List Nat} (hl : RowAt w a (l.map iv)) (hm : RowAt w b (m.map iv)) (hn : l.length ≤ 4611686018427387904) :
    Calls Try.prog 20 #[.slice a l.length c, .slice b m.length d] w fun e w' => e = .returned (.bool (l == m)) ∧ ∃ q, w' = w.drewN q := by
  by_cases hlen : l.length = m.length
  · have g1 : ((l.length : Int) != (m.length : Int)) = false := by simp [hlen]
    have g2 : ((l.length : Int) == (m.length : Int)) = true := by simp [hlen]
    have HL := Lib.hid (And.intro hlen (And.intro hl hm))
    clear hlen hl hm
    go_enter Try.func20, Try.ntmps20
    go_wp2
    go_loopw [5] (fun i wr => ∃ k : Nat, k ≤ l.length ∧ i = .int .i64 k ∧ Hid (l.take k = m.take k) ∧ ∃ q, wr = w.drewN q) (fun i _ => l.length - (RowKit.intOf i).toNat)
    case atStart => exact ⟨0, by omega, rfl, by show _ = _; simp, 0, rfl⟩
    case round =>
      obtain ⟨k, hk, rfl, HT, q, rfl⟩ := hrel
      by_cases hlt : k < l.length
      · obtain ⟨x, hx⟩ : ∃ x, l[k]? = some x := ⟨_, List.getElem?_eq_getElem hlt⟩
        obtain ⟨y, hy⟩ : ∃ y, m[k]? = some y := ⟨_, List.getElem?_eq_getElem (by have := HL.out.1; omega)⟩
        obtain ⟨b1, o1, rfl, h1⟩ := HL.out.2.1 (by intro e; have e' := List.map_eq_nil_iff.1 e; rw [e'] at hlt; simp at hlt)
        obtain ⟨b2, o2, rfl, h2⟩ := HL.out.2.2 (by intro e; have e' := List.map_eq_nil_iff.1 e; have h1 := HL.out.1; rw [e', List.length_nil] at h1; omega)
        have q1 := h1 k (iv x) (by rw [List.getElem?_map, hx]; rfl)
        have q2 := h2 k (iv y) (by rw [List.getElem?_map, hy]; rfl)
        unfold iv at q1 q2
        have j0 : (0 : Int) ≤ (k : Int) := by omega
        have j1 : (k : Int) < (l.length : Int) := by omega
        have j2 : (k : Int) < (m.length : Int) := by have := HL.out.1; omega
        have HX := Lib.hid (And.intro hx hy)
        clear hx hy h1 h2
        by_cases hxy : x = y
        · have g3 : ((x : Int) != (y : Int)) = false := by simp [hxy]
          have g4 : ((x : Int) == (y : Int)) = true := by simp [hxy]
          have HXY := Lib.hid hxy
          clear hxy
          go_wp2
          go_quiet (fail)
          go_wp2
          go_roundw
          case rel => exact ⟨k + 1, by omega, by go_num, by show _ = _; rw [List.take_add_one, List.take_add_one, HX.out.1, HX.out.2, HT.out, HXY.out], _, by first | rfl | (simp only [World.drewN_drewN]; rfl)⟩
          case measure => simp [RowKit.intOf]; omega
        · have g3 : ((x : Int) != (y : Int)) = true := bne_iff_ne.2 (by omega)
          have g4 : ((x : Int) == (y : Int)) = false := beq_eq_false_iff_ne.2 (by omega)
          have hne : (l == m) = false := by
            rw [beq_eq_false_iff_ne]
            intro e
            have h := HX.out
            rw [e, h.2] at h
            exact hxy (Option.some.inj h.1).symm
          have HNE := Lib.hid hne
          clear hxy hne
          go_wp2
          go_quiet (fail)
          go_wp2
          go_ret
          exact ⟨by rw [HNE.out]; rfl, _, by first | rfl | (simp only [World.drewN_drewN]; rfl)⟩
      · have e : k = l.length := by omega
        subst e
        have hq : (l == m) = true := by
          have := HT.out
          have h1 := HL.out.1
          rw [List.take_length, h1, List.take_length] at this
          rw [this]; simp
        have HQ := Lib.hid hq
        clear hq
        go_wp2
        go_ret
        exact ⟨by rw [HQ.out]; rfl, _, by first | rfl | (simp only [World.drewN_drewN]; rfl)⟩
  · have g1 : ((l.length : Int) != (m.length : Int)) = true := bne_iff_ne.2 (by omega)
    have g2 : ((l.length : Int) == (m.length : Int)) = false := beq_eq_false_iff_ne.2 (by omega)
    have hne : (l == m) = false := by
      rw [beq_eq_false_iff_ne]
      intro e
      exact hlen (by rw [e])
    have HNE := Lib.hid hne
    clear hlen hne hl hm
    go_enter Try.func20, Try.ntmps20
    go_wp2
    go_ret
    exact ⟨by rw [HNE.out]; rfl, 0, rfl⟩

end Go.Proofs.Ytljobojdcnhecaa
