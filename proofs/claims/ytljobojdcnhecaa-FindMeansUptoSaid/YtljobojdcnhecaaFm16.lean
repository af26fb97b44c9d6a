/- Texts of this claim, one behind the other: IbF. -/
import Derived.Test.YtljobojdcnhecaaFm13
import Derived.Test.YtljobojdcnhecaaFm14
import Derived.Deep.CutRange
set_option linter.unusedSimpArgs false
set_option linter.unusedVariables false
set_option maxRecDepth 100000
set_option maxHeartbeats 16000000
namespace Go.Proofs.Ytljobojdcnhecaa
/- Find: (*Index).Add. (printed by gen/add.py) -/
open Go.RowKit Go.Maps Go.MapKept

theorem dest_cons {α : Type} {n : Nat} {l : List α} (h : l.length = n + 1) : ∃ a r, l = a :: r ∧ r.length = n := by
  cases l with
  | nil => simp at h
  | cons a r => exact ⟨a, r, rfl, by simpa using h⟩
theorem built_found {l : List UInt8} (h : l.length = 32) (n : Nat) : Try.prog.built 62 [(0, hashV l), (1, .int .i64 (n : Int))] = some (fc (l, n)).toArray := by
  obtain ⟨b0, r0, rfl, h0⟩ := dest_cons h
  obtain ⟨b1, r1, rfl, h1⟩ := dest_cons h0
  obtain ⟨b2, r2, rfl, h2⟩ := dest_cons h1
  obtain ⟨b3, r3, rfl, h3⟩ := dest_cons h2
  obtain ⟨b4, r4, rfl, h4⟩ := dest_cons h3
  obtain ⟨b5, r5, rfl, h5⟩ := dest_cons h4
  obtain ⟨b6, r6, rfl, h6⟩ := dest_cons h5
  obtain ⟨b7, r7, rfl, h7⟩ := dest_cons h6
  obtain ⟨b8, r8, rfl, h8⟩ := dest_cons h7
  obtain ⟨b9, r9, rfl, h9⟩ := dest_cons h8
  obtain ⟨b10, r10, rfl, h10⟩ := dest_cons h9
  obtain ⟨b11, r11, rfl, h11⟩ := dest_cons h10
  obtain ⟨b12, r12, rfl, h12⟩ := dest_cons h11
  obtain ⟨b13, r13, rfl, h13⟩ := dest_cons h12
  obtain ⟨b14, r14, rfl, h14⟩ := dest_cons h13
  obtain ⟨b15, r15, rfl, h15⟩ := dest_cons h14
  obtain ⟨b16, r16, rfl, h16⟩ := dest_cons h15
  obtain ⟨b17, r17, rfl, h17⟩ := dest_cons h16
  obtain ⟨b18, r18, rfl, h18⟩ := dest_cons h17
  obtain ⟨b19, r19, rfl, h19⟩ := dest_cons h18
  obtain ⟨b20, r20, rfl, h20⟩ := dest_cons h19
  obtain ⟨b21, r21, rfl, h21⟩ := dest_cons h20
  obtain ⟨b22, r22, rfl, h22⟩ := dest_cons h21
  obtain ⟨b23, r23, rfl, h23⟩ := dest_cons h22
  obtain ⟨b24, r24, rfl, h24⟩ := dest_cons h23
  obtain ⟨b25, r25, rfl, h25⟩ := dest_cons h24
  obtain ⟨b26, r26, rfl, h26⟩ := dest_cons h25
  obtain ⟨b27, r27, rfl, h27⟩ := dest_cons h26
  obtain ⟨b28, r28, rfl, h28⟩ := dest_cons h27
  obtain ⟨b29, r29, rfl, h29⟩ := dest_cons h28
  obtain ⟨b30, r30, rfl, h30⟩ := dest_cons h29
  obtain ⟨b31, r31, rfl, h31⟩ := dest_cons h30
  obtain rfl := List.length_eq_zero_iff.1 h31
  kernel_rfl
theorem Try.info30 : (Try.prog.info? 30).map (fun i => (i.zero, i.size, i.bytes)) = some (some (.slice none 0 0), 1, 24) := by kernel_rfl
theorem add_ents {F G : Nat → Prop} {wc W W8 : World} {bx g7 n1 : Nat} {ve vo vm v8 U : Value} {E1 H H' : List (List UInt8)} {b : List UInt8} {vs : List Value} {fx : Array Value} (hX : XRaw F G wc bx ve vo vm E1 H H') (r1 : wc.ownsRow 0 30 1 ve n1 vs) (r2 : vs.length = n1) (r3 : ∀ (i : Nat) x l, vs[i]? = some x → E1[i]? = some l → BytesR G wc x l) (hn : E1.length = n1)
    (hb : Below wc.heap.size wc W) (hU : BytesR (fun x => wc.heap.size ≤ x) W U b) (r8 : W8.ownsRow 0 30 1 v8 (n1 + 1) (vs ++ [U])) (g8 : Grew ve W v8 W8) (hf : wc.heap[g7]? = some (.cells fx 62 (0, 0))) (hnew : ∀ b, wc.heap.size ≤ b → F b ∧ G b) :
    XRaw F G (W8.setCell ⟨bx, 0, none⟩ v8) bx v8 vo vm (E1 ++ [b]) H H' ∧ Chg F wc (W8.setCell ⟨bx, 0, none⟩ v8) ∧ (W8.setCell ⟨bx, 0, none⟩ v8).heap[g7]? = some (.cells fx 62 (0, 0)) := by
  subst hn
  have hX2 := hX.below hb
  have r12 := row_below r1 hb
  have hf2 := below_keep hb hf
  have hc : Chg (fun x => ve.ownBlock = some x ∨ x = bx) W (W8.setCell ⟨bx, 0, none⟩ v8) := (g8.1.mono (fun b hb _ => Or.inl hb)).trans (Chg.set (O := fun b => b = bx) v8 rfl) (fun b hb _ => Or.inr hb)
  refine ⟨hX2.entered r12 r2 (fun i x l hx hl => (r3 i x l hx hl).kept (Chg.of_below (O := fun _ => False) hb) (fun _ _ h => h) (fun _ _ h => h)) (hU.kept (Chg.refl (fun _ => False) W) (fun _ _ h => h) (fun x _ h => (hnew x h).2)) r8 g8 (fun b hb' => (hnew b (Nat.le_trans hb.size hb')).1), ?_, hc.obj hf2 (fun ho => ?_)⟩
  · refine (Chg.of_below (O := F) hb).trans hc (fun x hx _ => ?_)
    rcases hx with hx | rfl
    · exact hX.entsF x hx
    · exact hX.own
  · rcases ho with ho | rfl
    · exact row_ne r12 ho hf2 (by decide)
    · exact cells_ty hf2 hX2.cell (by decide)
theorem flat_ins {H : List (List UInt8)} (hl : Len32 H) {h : List UInt8} : ((ordN H).flatMap fc).take ((ordN H).countP (fun p => decide (cmpB p.1 h ≤ 0)) * 33) ++ fc (h, H.length) ++ ((ordN H).flatMap fc).drop ((ordN H).countP (fun p => decide (cmpB p.1 h ≤ 0)) * 33) = (ordN (H ++ [h])).flatMap fc := by
  rw [(flat_take hl.ord _).1, (flat_take hl.ord _).2, ordN_push]
  simp only [insO, List.flatMap_append, List.flatMap_cons, List.append_assoc]
theorem run_slice_found {l : List UInt8} (h : l.length = 32) (n : Nat) (w : World) : (Instr.buildSlice 55 1 #[(0, .agg (fc (l, n)).toArray)]).run Try.prog w = .ok (.slice (some ⟨w.heap.size, 0, none⟩) 1 1) (w.alloc (.cells (fc (l, n)).toArray 62)) := by
  obtain ⟨b0, r0, rfl, h0⟩ := dest_cons h
  obtain ⟨b1, r1, rfl, h1⟩ := dest_cons h0
  obtain ⟨b2, r2, rfl, h2⟩ := dest_cons h1
  obtain ⟨b3, r3, rfl, h3⟩ := dest_cons h2
  obtain ⟨b4, r4, rfl, h4⟩ := dest_cons h3
  obtain ⟨b5, r5, rfl, h5⟩ := dest_cons h4
  obtain ⟨b6, r6, rfl, h6⟩ := dest_cons h5
  obtain ⟨b7, r7, rfl, h7⟩ := dest_cons h6
  obtain ⟨b8, r8, rfl, h8⟩ := dest_cons h7
  obtain ⟨b9, r9, rfl, h9⟩ := dest_cons h8
  obtain ⟨b10, r10, rfl, h10⟩ := dest_cons h9
  obtain ⟨b11, r11, rfl, h11⟩ := dest_cons h10
  obtain ⟨b12, r12, rfl, h12⟩ := dest_cons h11
  obtain ⟨b13, r13, rfl, h13⟩ := dest_cons h12
  obtain ⟨b14, r14, rfl, h14⟩ := dest_cons h13
  obtain ⟨b15, r15, rfl, h15⟩ := dest_cons h14
  obtain ⟨b16, r16, rfl, h16⟩ := dest_cons h15
  obtain ⟨b17, r17, rfl, h17⟩ := dest_cons h16
  obtain ⟨b18, r18, rfl, h18⟩ := dest_cons h17
  obtain ⟨b19, r19, rfl, h19⟩ := dest_cons h18
  obtain ⟨b20, r20, rfl, h20⟩ := dest_cons h19
  obtain ⟨b21, r21, rfl, h21⟩ := dest_cons h20
  obtain ⟨b22, r22, rfl, h22⟩ := dest_cons h21
  obtain ⟨b23, r23, rfl, h23⟩ := dest_cons h22
  obtain ⟨b24, r24, rfl, h24⟩ := dest_cons h23
  obtain ⟨b25, r25, rfl, h25⟩ := dest_cons h24
  obtain ⟨b26, r26, rfl, h26⟩ := dest_cons h25
  obtain ⟨b27, r27, rfl, h27⟩ := dest_cons h26
  obtain ⟨b28, r28, rfl, h28⟩ := dest_cons h27
  obtain ⟨b29, r29, rfl, h29⟩ := dest_cons h28
  obtain ⟨b30, r30, rfl, h30⟩ := dest_cons h29
  obtain ⟨b31, r31, rfl, h31⟩ := dest_cons h30
  obtain rfl := List.length_eq_zero_iff.1 h31
  kernel_rfl
theorem exec_mapEntry {P : Program} {op : Oper} {a : Act} {w w' : World} (t : TypeId) (m x : Operand) (ho : op.op = .mapEntry t m x) (mv xv v : Value) (hm : a.eval m = mv) (hx : a.eval x = xv) (hr : (Instr.mapEntry t mv xv).run P w = .ok v w') : (execOp a.eval op).run P w = .ok (.value v) w' := by
  simp [execOp, ho, hm, hx, hr, Result.andThen]
theorem wp_entryStore {P : Program} {o : Oper} {a : Act} {w w' : World} {K : Act → World → Prop} {Q : Exit → Act → World → Prop} (t : TypeId) (m s x : Operand) (ho : o.op = .entryStore t m s x) (mv sv xv : Value) (hm : a.eval m = mv) (hs : a.eval s = sv) (hx : a.eval x = xv) (hr : (Instr.entryStore t mv sv xv).run P w = .ok () w') (hk : K (a.put o.dst undef) w') : o.wp P a w K Q := by
  unfold Oper.wp
  simp [execOp, ho, hm, hs, hx, hr, Result.andThen]
  exact hk
/-- the map behind one more entry -/
theorem add_count {F G : Nat → Prop} {wB W W8 : World} {bx bm n1 : Nat} {ve vo v v8 : Value} {E H H' : List (List UInt8)} {es es1 es' : Array MapEntry} {clock clock1 clock' : Nat} {h : List UInt8} (hX : XRaw F G wB bx ve vo (.map (some bm)) E H H') (hm : wB.heap[bm]? = some (.map es clock)) (hB : ByIn F wB es clock H') (hl : h.length = 32) (hn : H'.length = n1)
    (hv : RowI wB v (likes H' h)) (hvF : ∀ b, v.ownBlock = some b → F b) (hva : ∀ e ∈ es.toList, e.key ≠ hashV h → ∀ b, v.ownBlock = some b → e.val.ownBlock ≠ some b)
    (hc : Chg (fun x => x = bm) wB W) (hmW : W.heap[bm]? = some (.map es1 clock1)) (r8 : W8.ownsRow 0 3 1 v8 ((likes H' h).length + 1) ((likes H' h).map iv ++ [iv n1])) (g8 : Grew v W v8 W8)
    (hs : Stamped es' clock') (h1 : ∀ x ∈ es'.toList, (x ∈ es.toList ∧ x.key ≠ hashV h) ∨ (x.key = hashV h ∧ x.val = v8)) (h2 : ∀ x ∈ es.toList, x.key ≠ hashV h → x ∈ es'.toList) (h3 : ∃ x ∈ es'.toList, x.key = hashV h) (hnew : ∀ b, wB.heap.size ≤ b → F b) :
    XRaw F G (Go.ChangeMaps.setBlock W8 bm (.map es' clock')) bx ve vo (.map (some bm)) E H (H' ++ [h]) ∧ Chg F wB (Go.ChangeMaps.setBlock W8 bm (.map es' clock')) := by
  subst hn
  have hvW := hc.row hv (fun b hb ho => by subst ho; exact row_map hv hb hm)
  have hm8 : W8.heap[bm]? = some (.map es1 clock1) := g8.1.obj hmW (fun ho => row_map hvW ho hmW)
  have hcs := chg_setBlock hm8 (.map es' clock')
  have hcA : Chg (fun b => b = bm ∨ v.ownBlock = some b) wB (Go.ChangeMaps.setBlock W8 bm (.map es' clock')) :=
    ((hc.mono (fun b hb _ => Or.inl hb)).trans g8.1 (fun b hb _ => Or.inr hb)).trans hcs (fun b hb _ => Or.inl hb)
  have hbmF : F bm := by
    rcases hX.by_ with ⟨e, _⟩ | ⟨bm', _, _, e, k, _⟩
    · cases e
    · cases e; exact k
  refine ⟨hX.counted hm hB hl hv hvF hva hs h1 h2 h3 hcA (Go.ChangeMaps.heap_setBlock_same hm8 _) ?_ ?_ hnew, hcA.mono (fun b hb _ => ?_)⟩
  · have := hcs.row r8 (fun b hb ho => by subst ho; exact row_map r8 hb hm8)
    unfold RowI
    rw [List.length_append, List.map_append]
    exact this
  · rcases g8.2 with e | ⟨g, e, hg⟩
    · exact Or.inl e
    · exact Or.inr ⟨g, e, Nat.le_trans hc.size hg⟩
  · rcases hb with rfl | hb
    · exact hbmF
    · exact hvF b hb
/-- the order behind one more entry -/
theorem add_order {F G : Nat → Prop} {wA W W9 : World} {bx g7 n1 c9 lc : Nat} {ve vo vm : Value} {a9 ac : Option Addr} {E H H' : List (List UInt8)} {h : List UInt8} {fx : Array Value} (hX : XRaw F G wA bx ve vo vm E H H') (hl : Len32 H) (hn : H.length = n1) (hb : Below wA.heap.size wA W) (hc : W.ownsRow wA.heap.size 62 33 (.slice ac n1 lc) n1 ((ordN H).flatMap fc))
    (hr : W9.ownsRow wA.heap.size 62 33 (.slice a9 (n1 + 1) c9) (n1 + 1) (((ordN H).flatMap fc).take ((ordN H).countP (fun p => decide (cmpB p.1 h ≤ 0)) * 33) ++ fc (h, n1) ++ ((ordN H).flatMap fc).drop ((ordN H).countP (fun p => decide (cmpB p.1 h ≤ 0)) * 33))) (hg : Chg (fun b => (Value.slice ac n1 lc).ownBlock = some b) W W9)
    (hf : wA.heap[g7]? = some (.cells fx 62 (0, 0))) (hnew : ∀ b, wA.heap.size ≤ b → G b) :
    XRaw F G (W9.setCell ⟨bx, 1, none⟩ (.slice a9 (n1 + 1) c9)) bx ve (.slice a9 (n1 + 1) c9) vm E (H ++ [h]) H' ∧ Chg F wA (W9.setCell ⟨bx, 1, none⟩ (.slice a9 (n1 + 1) c9)) ∧ (W9.setCell ⟨bx, 1, none⟩ (.slice a9 (n1 + 1) c9)).heap[g7]? = some (.cells fx 62 (0, 0)) := by
  subst hn
  have hb9 : Below wA.heap.size wA W9 := Chg.below_new hb hg (fun k hk => (row_blk hc hk).1)
  rw [flat_ins hl] at hr
  have hf9 := below_keep hb9 hf
  have hX9 := hX.below hb9
  have hs : Chg (fun b => b = bx) W9 (W9.setCell ⟨bx, 1, none⟩ (.slice a9 (H.length + 1) c9)) := Chg.set _ rfl
  refine ⟨hX9.ordered (by rw [List.length_append]; exact row_lo hr) (fun b hb' => hnew b (row_blk hr hb').1), (Chg.of_below hb9).trans hs (fun x hx _ => by cases hx; exact hX.own), hs.obj hf9 (fun ho => ?_)⟩
  subst ho
  exact cells_ty hf9 hX9.cell (by decide)
/-- Add's answer, and the entries behind it -/
def addR (E L : List (List UInt8)) : Int × List (List UInt8) := if L.any (fun l => decide (4096 < l.length)) then (3, E) else (0, E ++ L)
/-- the loop of Add -/
def AddAt (F G : Nat → Prop) (w wr : World) (bx : Nat) (E : List (List UInt8)) : Prop := ∃ ve vo bm, XRaw F G wr bx ve vo (.map (some bm)) E (E.map leaf) (E.map leaf) ∧ Chg F w wr
theorem add_any {F G R : Nat → Prop} {w : World} {bx : Nat} {E L : List (List UInt8)} {a : Option Addr} {c : Nat} (hX : XAt F G w bx E) (hL : EntsR R w a L) (hR : ∀ b, b < w.heap.size → R b → ¬ F b) (hE : E.length + L.length ≤ 4194304) :
    Calls Try.prog 7 #[.pointer (some ⟨bx, 0, none⟩), .slice a L.length c] w fun e w' => e = .returned (.int .i64 (addR E L).1) ∧ XAt (fun b => F b ∨ w.heap.size ≤ b) (fun b => G b ∨ w.heap.size ≤ b) w' bx (addR E L).2 ∧ Chg F w w' := by
  have cC := contains_any hL (c := c) (by omega)
  have hmax : maxLen = 9223372036854775807 := rfl
  obtain ⟨i1, hi1, hy0, hy1, hy2⟩ := info_parts Try.info30
  obtain ⟨i2, hi2, hv0, hv1, hv2⟩ := info_parts Try.info3
  obtain ⟨ve0, vo0, vm0, hX0⟩ := hX
  obtain ⟨ox, rfl⟩ : ∃ x, vm0 = .map x := by
    rcases hX0.by_ with ⟨h1, _⟩ | ⟨bm, _, _, h1, _⟩
    · exact ⟨none, h1⟩
    · exact ⟨some bm, h1⟩
  have h0 := hX0.cell
  have q2 := ce2 h0
  have zq2 := fz 2 h0
  have HL := Lib.hid hL
  have HX := Lib.hid hX0
  clear hL hX0 h0
  go_enter Try.func7, Try.ntmps7
  cases hlong : L.any (fun l => decide (4096 < l.length)) with
  | true =>
    rw [hlong] at cC
    go_wp2_with (refine cC.mono ?_; rintro _ w1 ⟨rfl, q, rfl⟩)
    go_ret
    have e : addR E L = (3, E) := by unfold addR; rw [hlong]; rfl
    rw [e]
    exact ⟨rfl, ⟨_, _, _, HX.out.kept (O := fun _ => False) (Chg.drewN (Chg.refl _ w) q) (fun _ _ _ h => h) (fun _ _ h => Or.inl h) (fun _ _ h => Or.inl h)⟩, Chg.drewN (Chg.refl _ _) _⟩
  | false =>
    rw [hlong] at cC
    have eA : addR E L = (0, E ++ L) := by unfold addR; rw [hlong]; rfl
    rw [eA]
    have hsh : ∀ l ∈ L, l.length ≤ 4096 := fun l hl => by
      have := List.any_eq_false.1 hlong l hl
      simp at this; omega
    have HSH := Lib.hid hsh
    clear hsh hlong eA
    have hmk := fun t w => run_makeMap (P := Try.prog) t w
    have hq : ∀ (W : World) (x : Option Nat), (binOp .eql 56 (.map x) (.map none)).run Try.prog W = .ok (.bool x.isNone) W := fun W x => by cases x <;> kernel_rfl
    go_upto_if 16 with (refine cC.mono ?_; rintro _ w1 ⟨rfl, q, rfl⟩)
    go_cut [] from 17 to 20 (fun wx => AddAt (fun b => F b ∨ w.heap.size ≤ b) (fun b => G b ∨ w.heap.size ≤ b) w wx bx E)
    case first =>
      have hXq := HX.out.kept (O := fun _ => False) (F' := fun b => F b ∨ w.heap.size ≤ b) (G' := fun b => G b ∨ w.heap.size ≤ b) (Chg.drewN (Chg.refl _ w) q) (fun _ _ _ h => h) (fun _ _ h => Or.inl h) (fun _ _ h => Or.inl h)
      cases ox with
      | none =>
        have e0 : E.map leaf = [] := by
          rcases HX.out.by_ with ⟨_, h1⟩ | ⟨bm, _, _, h1, _⟩
          · exact h1
          · cases h1
        rw [e0] at hXq
        have hM := Lib.hid (hXq.mapped (fun b hb => Or.inr hb))
        have hcM : Hid (Chg (fun b => F b ∨ w.heap.size ≤ b) w (((w.drewN q).alloc (.map #[] 0)).setCell ⟨bx, 2, none⟩ (.map (some w.heap.size)))) := (Chg.drewN (Chg.refl _ w) q).trans ((Chg.alloc (fun b => F b ∨ w.heap.size ≤ b) _ _).trans (Chg.set _ (Or.inl HX.out.own)) (fun _ h _ => h)) (fun _ h _ => h)
        have e0' := Lib.hid e0
        have hq5 := hXq.cell
        obtain ⟨w5, hw5⟩ : ∃ w5, (w.drewN q).alloc (.map #[] 0) = w5 := ⟨_, rfl⟩
        have hq6 : w5.heap[bx]? = some (.cells #[ve0, vo0, .map none] 58 (0, 0)) := by rw [← hw5]; exact below_keep (below_alloc (w.drewN q) (.map #[] 0)) hq5
        have q6 := ce2 hq6
        have zq6 := fz 2 hq6
        rw [hw5] at hM hcM
        clear hXq e0 hq5 hq6
        go_wp2
        go_meet
        case rel => exact ⟨_, _, _, by rw [e0'.out]; exact hM.out, hcM.out⟩
      | some bm =>
        have hM := Lib.hid hXq
        clear hXq
        go_wp2
        go_meet
        case rel => exact ⟨_, _, _, hM.out, Chg.drewN (Chg.refl _ w) q⟩
    case rest =>
      obtain ⟨ve1, vo1, bm1, hX1, hc1⟩ := hcut
      have HL1 := Lib.hid (HL.out.kept (R' := R) hc1 (fun b hb hr ho => by rcases ho with ho | ho; exact hR b hb hr ho; omega) (fun _ _ h => h))
      go_wp2
      go_loopw [23] (fun i wr => ∃ k : Nat, k ≤ L.length ∧ i = .int .i64 k ∧ AddAt (fun b => F b ∨ w.heap.size ≤ b) (fun b => G b ∨ w.heap.size ≤ b) w wr bx (E ++ L.take k)) (fun i _ => L.length - (RowKit.intOf i).toNat)
      case atStart => exact ⟨0, by omega, rfl, ve1, vo1, bm1, by simpa using hX1, hc1⟩
      case round =>
        obtain ⟨k, hk, rfl, ve, vo, bm, hXr, hcr⟩ := hrel
        by_cases hlt : k < L.length
        · have hTS : ∀ b, L[k]? = some b → E ++ L.take (k + 1) = (E ++ L.take k) ++ [b] := fun b hb => by rw [List.take_add_one, hb, List.append_assoc]; rfl
          have hl1 : (E ++ L.take k).length = E.length + k := by simp; omega
          obtain ⟨E1, hE1⟩ : ∃ E1, E ++ L.take k = E1 := ⟨_, rfl⟩
          rw [hE1] at hXr hl1 hTS
          have hX1' := hXr.cell
          have hEn := hXr.ents.read
          obtain ⟨ea, ec, rfl, hec, hen, _⟩ := hEn
          obtain ⟨n1, hn1⟩ : ∃ n1, E.length + k = n1 := ⟨_, rfl⟩
          rw [hl1, hn1] at hX1' hec hXr
          have HN := Lib.hid hn1
          obtain ⟨ab, ao, rfl, _, habs, hcells⟩ := (HL.out.kept (R' := R) hcr (fun b hb hr ho => by rcases ho with ho | ho; exact hR b hb hr ho; omega) (fun _ _ h => h)) (fun e => by rw [e] at hlt; simp at hlt)
          obtain ⟨b, hb⟩ : ∃ b, L[k]? = some b := ⟨_, List.getElem?_eq_getElem hlt⟩
          obtain ⟨ua, uc, cu, u1, u2, u3, u4⟩ := hcells k b hb
          have hbl := HSH.out b (List.mem_of_getElem? hb)
          have hcL := fun W (hW : Below wr.heap.size wr W) => hashLeaf_any (w := W) (b := b) (a := ua) (c := uc) (u1.below hW) u2 (fun x hx hne => Nat.lt_of_lt_of_le (u4 x hx hne).2 hW.size) (by omega)
          have c0 := ce0 hX1'
          have hbx : bx < wr.heap.size := cell_lt c0
          have j0 : (0 : Int) ≤ (k : Int) := by omega
          have j1 : (k : Int) < (L.length : Int) := by omega
          have HB := Lib.hid hb
          have HX := Lib.hid (And.intro hXr hcr)
          have HU := Lib.hid (And.intro u1 (And.intro u2 (And.intro u3 u4)))
          have HTS := Lib.hid (hTS b hb)
          clear hTS hE1 hb hXr hcr hcells u1 u2 u3 u4 hec 
          go_upto_region 10 with fail
          go_cut [7] from 27 to 34 (fun s7 wx => ∃ g7, s7 = .pointer (some ⟨g7, 0, none⟩) ∧ wr.heap.size ≤ g7 ∧ wx.heap[g7]? = some (.cells (fc (leaf b, n1)).toArray 62 (0, 0)) ∧ Below wr.heap.size wr wx)
          case first =>
            refine wp_region_held_drew (S := fun w' => w'.cell? ⟨bx, 0, none⟩ = some (.slice ea n1 ec)) (by kernel_rfl) c0 (fun hHeld => ?_)
            refine tk 0 ?_ hHeld (fun w' hSw => ?_) ?_; rotate_left
            · (go_simp; all_goals (with_reducible rfl))
            (try simp only [Act.put, Zz])
            refine tk 2 ?_ hHeld (fun w' hSw => ?_) ?_; rotate_left
            · (go_simp; all_goals (with_reducible rfl))
            (try simp only [Act.put, Zz])
            refine tk 3 ?_ hHeld (fun w' hSw => ?_) ?_; rotate_left
            · (go_simp; all_goals (with_reducible rfl))
            (try simp only [Act.put, Zz])
            refine tk 4 ?_ hHeld (fun w' hSw => ?_) ?_; rotate_left
            · (go_simp; all_goals (with_reducible rfl))
            (try simp only [Act.put, Zz])
            refine tk 5 ?_ hHeld (fun w' hSw => ?_) ?_; rotate_left
            · (go_simp; all_goals (with_reducible rfl))
            (try simp only [Act.put, Zz])
            refine tk 6 ?_ hHeld (fun w' hSw => ?_) ?_; rotate_left
            · (go_simp; all_goals (with_reducible rfl))
            (try simp only [Act.put, Zz])
            refine wpAnyH_ready (rs := [1, 8]) (by kernel_rfl) (by simp) ?_
            refine AllReadyH.cons rfl (fun K hK => ?_) (AllReadyH.cons rfl (fun K hK => ?_) AllReadyH.nil)
            · go_simp
              ((with_reducible refine (hcL wr.drew ⟨rfl, rfl, rfl, Nat.le_refl _, fun _ _ => rfl⟩).mono ?_); rintro _ W5 ⟨rfl, hb5⟩)
              have c05 := cell_below hb5 c0
              refine hK.out _ _ (c05) (fun hHeld => ?_)
              clear hK K
              (try simp only [Act.put, Zz])
              refine tk 7 (.agg (fc (leaf b, n1)).toArray) hHeld (fun w' hSw => exec_build 62 #[(0, .tmp 28), (1, .tmp 33)] rfl _ (by simp only [List.map_toArray, List.map_cons, List.map_nil]; exact built_found (leaf_len b) n1)) ?_
              (try simp only [Act.put, Zz])
              refine wpAnyH_ready (rs := [8]) (by kernel_rfl) (by simp) ?_
              refine AllReadyH.cons rfl (fun K hK => ?_) AllReadyH.nil
              go_simp
              obtain ⟨W6, hW6, hb6, hz6, hx6⟩ := al1 W5 #[.int .u8 0, .int .u8 0, .int .u8 0, .int .u8 0, .int .u8 0, .int .u8 0, .int .u8 0, .int .u8 0, .int .u8 0, .int .u8 0, .int .u8 0, .int .u8 0, .int .u8 0, .int .u8 0, .int .u8 0, .int .u8 0, .int .u8 0, .int .u8 0, .int .u8 0, .int .u8 0, .int .u8 0, .int .u8 0, .int .u8 0, .int .u8 0, .int .u8 0, .int .u8 0, .int .u8 0, .int .u8 0, .int .u8 0, .int .u8 0, .int .u8 0, .int .u8 0, .int .i64 0] 62
              rw [hW6]
              have c06 := up_cell hb6 c05
              have hz5 : wr.heap.size ≤ W5.heap.size := hb5.size
              refine hK.out _ _ (c06) (fun hHeld => ?_)
              clear hK K
              (try simp only [Act.put, Zz])
              refine wpAnyH_ready (rs := [9]) (by kernel_rfl) (by simp) ?_
              refine AllReadyH.cons rfl (fun K hK => ?_) AllReadyH.nil
              refine step_store_mid rfl 62 _ _ rfl W5.heap.size 0 (fc (leaf b, n1)).toArray (by rfl) (by rfl) (there_of_heap (cs := [.int .u8 0, .int .u8 0, .int .u8 0, .int .u8 0, .int .u8 0, .int .u8 0, .int .u8 0, .int .u8 0, .int .u8 0, .int .u8 0, .int .u8 0, .int .u8 0, .int .u8 0, .int .u8 0, .int .u8 0, .int .u8 0, .int .u8 0, .int .u8 0, .int .u8 0, .int .u8 0, .int .u8 0, .int .u8 0, .int .u8 0, .int .u8 0, .int .u8 0, .int .u8 0, .int .u8 0, .int .u8 0, .int .u8 0, .int .u8 0, .int .u8 0, .int .u8 0, .int .i64 0]) hx6 (by rw [List.size_toArray, fc_len (leaf_len b)]; decide)) (by rw [List.size_toArray, fc_len (leaf_len b)]; kernel_rfl) (all_oneCell_toArray (fun v hv => fc_one (L := [(leaf b, n1)]) v (by simpa using hv))) ?_
              obtain ⟨k1, k2⟩ := setCells_heap (fc (leaf b, n1)) (w := W6) (g := W5.heap.size) (o := 0) hx6
              rw [lay_whole (by rw [fc_len (leaf_len b)]; rfl)] at k1
              refine hK.out _ _ (k2.cell c06 (fun e => by simp only at e; omega)) (fun hHeld => ?_)
              clear hK K
              (try simp only [Act.put, Zz])
              refine wpAnyH_done (by kernel_rfl) ?_ _
              (try simp only [Act.put, Zz])
              clear hHeld
              have HK := Lib.hid (And.intro k1 (Chg.below_new (drew_below (hb5.trans (hb6.mono hb5.size))) k2 (fun b e => by subst e; exact hz5)))
              clear k1 k2
              go_wp2
              go_meet
              case rel => exact ⟨_, rfl, by omega, HK.out.1, HK.out.2⟩
            · go_simp
              obtain ⟨W5, hW5, hb5, hz5, hx5⟩ := al1 wr #[.int .u8 0, .int .u8 0, .int .u8 0, .int .u8 0, .int .u8 0, .int .u8 0, .int .u8 0, .int .u8 0, .int .u8 0, .int .u8 0, .int .u8 0, .int .u8 0, .int .u8 0, .int .u8 0, .int .u8 0, .int .u8 0, .int .u8 0, .int .u8 0, .int .u8 0, .int .u8 0, .int .u8 0, .int .u8 0, .int .u8 0, .int .u8 0, .int .u8 0, .int .u8 0, .int .u8 0, .int .u8 0, .int .u8 0, .int .u8 0, .int .u8 0, .int .u8 0, .int .i64 0] 62
              rw [hW5]
              have c05 := up_cell hb5 c0
              have hbd : Below wr.heap.size wr W5.drew := ⟨hb5.os, hb5.tape, hb5.output, hb5.size, hb5.block⟩
              refine hK.out _ _ (c05) (fun hHeld => ?_)
              clear hK K
              (try simp only [Act.put, Zz])
              refine wpAnyH_ready (rs := [1]) (by kernel_rfl) (by simp) ?_
              refine AllReadyH.cons rfl (fun K hK => ?_) AllReadyH.nil
              go_simp
              ((with_reducible refine (hcL W5.drew hbd).mono ?_); rintro _ W6 ⟨rfl, hb6⟩)
              have c06 := cell_below hb6 c05
              have hx6 := below_keep (w := W5.drew) hb6 hx5
              refine hK.out _ _ (c06) (fun hHeld => ?_)
              clear hK K
              (try simp only [Act.put, Zz])
              refine tk 7 (.agg (fc (leaf b, n1)).toArray) hHeld (fun w' hSw => exec_build 62 #[(0, .tmp 28), (1, .tmp 33)] rfl _ (by simp only [List.map_toArray, List.map_cons, List.map_nil]; exact built_found (leaf_len b) n1)) ?_
              (try simp only [Act.put, Zz])
              refine wpAnyH_ready (rs := [9]) (by kernel_rfl) (by simp) ?_
              refine AllReadyH.cons rfl (fun K hK => ?_) AllReadyH.nil
              refine step_store_mid rfl 62 _ _ rfl wr.heap.size 0 (fc (leaf b, n1)).toArray (by rfl) (by rfl) (there_of_heap (cs := [.int .u8 0, .int .u8 0, .int .u8 0, .int .u8 0, .int .u8 0, .int .u8 0, .int .u8 0, .int .u8 0, .int .u8 0, .int .u8 0, .int .u8 0, .int .u8 0, .int .u8 0, .int .u8 0, .int .u8 0, .int .u8 0, .int .u8 0, .int .u8 0, .int .u8 0, .int .u8 0, .int .u8 0, .int .u8 0, .int .u8 0, .int .u8 0, .int .u8 0, .int .u8 0, .int .u8 0, .int .u8 0, .int .u8 0, .int .u8 0, .int .u8 0, .int .u8 0, .int .i64 0]) hx6 (by rw [List.size_toArray, fc_len (leaf_len b)]; decide)) (by rw [List.size_toArray, fc_len (leaf_len b)]; kernel_rfl) (all_oneCell_toArray (fun v hv => fc_one (L := [(leaf b, n1)]) v (by simpa using hv))) ?_
              obtain ⟨k1, k2⟩ := setCells_heap (fc (leaf b, n1)) (w := W6) (g := wr.heap.size) (o := 0) hx6
              rw [lay_whole (by rw [fc_len (leaf_len b)]; rfl)] at k1
              refine hK.out _ _ (k2.cell c06 (fun e => by simp only at e; omega)) (fun hHeld => ?_)
              clear hK K
              (try simp only [Act.put, Zz])
              refine wpAnyH_done (by kernel_rfl) ?_ _
              (try simp only [Act.put, Zz])
              clear hHeld
              have HK := Lib.hid (And.intro k1 (Chg.below_new (hb5.trans ((drew_below hb6).mono hb5.size)) k2 (fun b e => by subst e; exact Nat.le_refl _)))
              clear k1 k2
              go_wp2
              go_meet
              case rel => exact ⟨_, rfl, by omega, HK.out.1, HK.out.2⟩
          case rest =>
            obtain ⟨g7, rfl, hg7, hf7, hb7⟩ := hcut
            have hXc := HX.out.1.below hb7
            obtain ⟨vs, r1, r2, r3⟩ := hXc.ents
            have hlE : E1.length = n1 := hl1.trans hn1
            rw [hlE] at r1 r2
            have c0c := ce0 hXc.cell
            have cB := fun W (hW : Below wc.heap.size wc W) => cloneB_any (w := W) (a := ua) (c := uc) (l := b) ((HU.out.1.below hb7).below hW) HU.out.2.2.1 (by omega)
            have H7 := Lib.hid (And.intro hg7 (And.intro hf7 (And.intro hb7 (And.intro hXc (And.intro r1 (And.intro r2 r3))))))
            clear hg7 hf7 hb7 hXc r1 r2 r3 cu c0
            go_upto_region 11 with fail
            go_cut [] from 35 to 45 (fun wx => ∃ ve2, XRaw (fun b => F b ∨ w.heap.size ≤ b) (fun b => G b ∨ w.heap.size ≤ b) wx bx ve2 vo (.map (some bm)) (E1 ++ [b]) (E1.map leaf) (E1.map leaf) ∧ Chg (fun b => F b ∨ w.heap.size ≤ b) wc wx ∧ wx.heap[g7]? = some (.cells (fc (leaf b, n1)).toArray 62 (0, 0)))
            case first =>
              refine wp_region_held_drew (S := fun _ => True) (by kernel_rfl) trivial (fun hHeld => ?_)
              obtain ⟨W, hW⟩ : ∃ W, wc.drew = W := ⟨_, rfl⟩
              have hbW : Below wc.heap.size wc W := by rw [← hW]; exact ⟨rfl, rfl, rfl, Nat.le_refl _, fun _ _ => rfl⟩
              rw [hW]
              clear hW
              replace c0c := up_cell hbW c0c
              refine tk 0 ?_ hHeld (fun w' hSw => ?_) ?_; rotate_left
              · (go_simp; all_goals (with_reducible rfl))
              (try simp only [Act.put, Zz])
              refine tk 1 ?_ hHeld (fun w' hSw => ?_) ?_; rotate_left
              · (go_simp; all_goals (with_reducible rfl))
              (try simp only [Act.put, Zz])
              refine tk 2 ?_ hHeld (fun w' hSw => ?_) ?_; rotate_left
              · (go_simp; all_goals (with_reducible rfl))
              (try simp only [Act.put, Zz])
              refine tk 3 ?_ hHeld (fun w' hSw => ?_) ?_; rotate_left
              · (go_simp; all_goals (with_reducible rfl))
              (try simp only [Act.put, Zz])
              refine tk 5 ?_ hHeld (fun w' hSw => ?_) ?_; rotate_left
              · (go_simp; all_goals (with_reducible rfl))
              (try simp only [Act.put, Zz])
              refine wpAnyH_ready (rs := [4, 6]) (by kernel_rfl) (by simp) ?_
              refine AllReadyH.cons rfl (fun K hK => ?_) (AllReadyH.cons rfl (fun K hK => ?_) AllReadyH.nil)
              · go_simp
                refine hK.out _ _ (trivial) (fun hHeld => ?_)
                clear hK K
                (try simp only [Act.put, Zz])
                refine wpAnyH_ready (rs := [6]) (by kernel_rfl) (by simp) ?_
                refine AllReadyH.cons rfl (fun K hK => ?_) AllReadyH.nil
                go_simp
                ((with_reducible refine (cB W hbW).mono ?_); rintro _ W1 ⟨U, rfl, hU, hb1⟩)
                replace hU := hU.kept (R' := fun x => wc.heap.size ≤ x) (Chg.refl (fun _ => False) W1) (fun _ _ h => h) (fun x _ h => Nat.le_trans hbW.size h)
                obtain ⟨uu, uk, rfl, _, _, _, _⟩ := row_slice2 hU.1
                replace hbW := hbW.trans (hb1.mono hbW.size)
                replace c0c := up_cell hb1 c0c
                refine hK.out _ _ (trivial) (fun hHeld => ?_)
                clear hK K
                (try simp only [Act.put, Zz])
                refine wpAnyH_ready (rs := [7]) (by kernel_rfl) (by simp) ?_
                refine AllReadyH.cons rfl (fun K hK => ?_) AllReadyH.nil
                go_simp
                obtain ⟨W2, hW2, hb2, hz2, hS⟩ := al1 W1 #[.slice uu b.length uk] 30
                rw [hW2]
                obtain ⟨gs, hgs⟩ : ∃ gs, W1.heap.size = gs := ⟨_, rfl⟩
                rw [hgs] at hS ⊢
                replace hbW := hbW.trans (hb2.mono hbW.size)
                replace c0c := up_cell hb2 c0c
                replace hU := hU.kept (R' := fun x => wc.heap.size ≤ x) (Chg.of_below (O := fun _ => False) hb2) (fun _ _ h => h) (fun _ _ h => h)
                refine hK.out _ _ (trivial) (fun hHeld => ?_)
                clear hK K
                (try simp only [Act.put, Zz])
                refine wpAnyH_ready (rs := [8]) (by kernel_rfl) (by simp) ?_
                refine AllReadyH.cons rfl (fun K hK => ?_) AllReadyH.nil
                have hX2 := H7.out.2.2.2.1.below hbW
                have r12 := row_below H7.out.2.2.2.2.1 hbW
                refine wp_append_seg (.tmp 39) (.tmp 42) 22 rfl 0 30 i1 (.slice none 0 0) 1 24 Try.underlying22 hi1 hy0 hy1 hy2 rfl (by decide) _ n1 _ rfl r12 ⟨gs, 0, none⟩ 1 1 [.slice uu b.length uk] rfl rfl (fun j u hu => by cases j with | zero => (simp at hu; subst hu; rw [addr_add]; exact ce0 hS) | succ j => simp at hu) (by intro u hu; simp at hu; subst hu; rfl) (by omega) (by omega) (Nat.zero_le _) ?_
                intro v8 W8 r8 g8
                obtain ⟨a8, c8, rfl⟩ := row_slice r8
                have hcx := g8.1.obj hX2.cell (fun ho => row_ne r12 ho hX2.cell (by decide))
                have q8 := ce0 hcx
                have zq8 := fz 0 hcx
                refine hK.out _ _ (trivial) (fun hHeld => ?_)
                clear hK K
                (try simp only [Act.put, Zz])
                refine tk 9 ?_ hHeld (fun w' hSw => ?_) ?_; rotate_left
                · (go_simp; all_goals (with_reducible rfl))
                (try simp only [Act.put, Zz])
                refine tk 10 ?_ hHeld (fun w' hSw => ?_) ?_; rotate_left
                · (go_simp; all_goals (with_reducible rfl))
                (try simp only [Act.put, Zz])
                refine wpAnyH_ready (rs := [11]) (by kernel_rfl) (by simp) ?_
                refine AllReadyH.cons rfl (fun K hK => ?_) AllReadyH.nil
                go_simp
                have hent := add_ents H7.out.2.2.2.1 H7.out.2.2.2.2.1 H7.out.2.2.2.2.2.1 H7.out.2.2.2.2.2.2 hlE hbW hU r8 g8 H7.out.2.1 (fun b hb => ⟨Or.inr (Nat.le_trans HX.out.2.size (Nat.le_trans H7.out.2.2.1.size hb)), Or.inr (Nat.le_trans HX.out.2.size (Nat.le_trans H7.out.2.2.1.size hb))⟩)
                refine hK.out _ _ (trivial) (fun hHeld => ?_)
                clear hK K
                (try simp only [Act.put, Zz])
                refine wpAnyH_done (by kernel_rfl) ?_ _
                (try simp only [Act.put, Zz])
                clear hHeld
                have HK := Lib.hid hent
                clear hent
                go_wp2
                go_meet
                case rel => exact ⟨_, HK.out⟩
              · go_simp
                ((with_reducible refine (cB W hbW).mono ?_); rintro _ W1 ⟨U, rfl, hU, hb1⟩)
                replace hU := hU.kept (R' := fun x => wc.heap.size ≤ x) (Chg.refl (fun _ => False) W1) (fun _ _ h => h) (fun x _ h => Nat.le_trans hbW.size h)
                obtain ⟨uu, uk, rfl, _, _, _, _⟩ := row_slice2 hU.1
                replace hbW := hbW.trans (hb1.mono hbW.size)
                replace c0c := up_cell hb1 c0c
                refine hK.out _ _ (trivial) (fun hHeld => ?_)
                clear hK K
                (try simp only [Act.put, Zz])
                refine wpAnyH_ready (rs := [4, 7]) (by kernel_rfl) (by simp) ?_
                refine AllReadyH.cons rfl (fun K hK => ?_) (AllReadyH.cons rfl (fun K hK => ?_) AllReadyH.nil)
                · go_simp
                  refine hK.out _ _ (trivial) (fun hHeld => ?_)
                  clear hK K
                  (try simp only [Act.put, Zz])
                  refine wpAnyH_ready (rs := [7]) (by kernel_rfl) (by simp) ?_
                  refine AllReadyH.cons rfl (fun K hK => ?_) AllReadyH.nil
                  go_simp
                  obtain ⟨W2, hW2, hb2, hz2, hS⟩ := al1 W1 #[.slice uu b.length uk] 30
                  rw [hW2]
                  obtain ⟨gs, hgs⟩ : ∃ gs, W1.heap.size = gs := ⟨_, rfl⟩
                  rw [hgs] at hS ⊢
                  replace hbW := hbW.trans (hb2.mono hbW.size)
                  replace c0c := up_cell hb2 c0c
                  replace hU := hU.kept (R' := fun x => wc.heap.size ≤ x) (Chg.of_below (O := fun _ => False) hb2) (fun _ _ h => h) (fun _ _ h => h)
                  refine hK.out _ _ (trivial) (fun hHeld => ?_)
                  clear hK K
                  (try simp only [Act.put, Zz])
                  refine wpAnyH_ready (rs := [8]) (by kernel_rfl) (by simp) ?_
                  refine AllReadyH.cons rfl (fun K hK => ?_) AllReadyH.nil
                  have hX2 := H7.out.2.2.2.1.below hbW
                  have r12 := row_below H7.out.2.2.2.2.1 hbW
                  refine wp_append_seg (.tmp 39) (.tmp 42) 22 rfl 0 30 i1 (.slice none 0 0) 1 24 Try.underlying22 hi1 hy0 hy1 hy2 rfl (by decide) _ n1 _ rfl r12 ⟨gs, 0, none⟩ 1 1 [.slice uu b.length uk] rfl rfl (fun j u hu => by cases j with | zero => (simp at hu; subst hu; rw [addr_add]; exact ce0 hS) | succ j => simp at hu) (by intro u hu; simp at hu; subst hu; rfl) (by omega) (by omega) (Nat.zero_le _) ?_
                  intro v8 W8 r8 g8
                  obtain ⟨a8, c8, rfl⟩ := row_slice r8
                  have hcx := g8.1.obj hX2.cell (fun ho => row_ne r12 ho hX2.cell (by decide))
                  have q8 := ce0 hcx
                  have zq8 := fz 0 hcx
                  refine hK.out _ _ (trivial) (fun hHeld => ?_)
                  clear hK K
                  (try simp only [Act.put, Zz])
                  refine tk 9 ?_ hHeld (fun w' hSw => ?_) ?_; rotate_left
                  · (go_simp; all_goals (with_reducible rfl))
                  (try simp only [Act.put, Zz])
                  refine tk 10 ?_ hHeld (fun w' hSw => ?_) ?_; rotate_left
                  · (go_simp; all_goals (with_reducible rfl))
                  (try simp only [Act.put, Zz])
                  refine wpAnyH_ready (rs := [11]) (by kernel_rfl) (by simp) ?_
                  refine AllReadyH.cons rfl (fun K hK => ?_) AllReadyH.nil
                  go_simp
                  have hent := add_ents H7.out.2.2.2.1 H7.out.2.2.2.2.1 H7.out.2.2.2.2.2.1 H7.out.2.2.2.2.2.2 hlE hbW hU r8 g8 H7.out.2.1 (fun b hb => ⟨Or.inr (Nat.le_trans HX.out.2.size (Nat.le_trans H7.out.2.2.1.size hb)), Or.inr (Nat.le_trans HX.out.2.size (Nat.le_trans H7.out.2.2.1.size hb))⟩)
                  refine hK.out _ _ (trivial) (fun hHeld => ?_)
                  clear hK K
                  (try simp only [Act.put, Zz])
                  refine wpAnyH_done (by kernel_rfl) ?_ _
                  (try simp only [Act.put, Zz])
                  clear hHeld
                  have HK := Lib.hid hent
                  clear hent
                  go_wp2
                  go_meet
                  case rel => exact ⟨_, HK.out⟩
                · go_simp
                  obtain ⟨W2, hW2, hb2, hz2, hS⟩ := al1 W1 #[.slice uu b.length uk] 30
                  rw [hW2]
                  obtain ⟨gs, hgs⟩ : ∃ gs, W1.heap.size = gs := ⟨_, rfl⟩
                  rw [hgs] at hS ⊢
                  replace hbW := hbW.trans (hb2.mono hbW.size)
                  replace c0c := up_cell hb2 c0c
                  replace hU := hU.kept (R' := fun x => wc.heap.size ≤ x) (Chg.of_below (O := fun _ => False) hb2) (fun _ _ h => h) (fun _ _ h => h)
                  refine hK.out _ _ (trivial) (fun hHeld => ?_)
                  clear hK K
                  (try simp only [Act.put, Zz])
                  refine wpAnyH_ready (rs := [4]) (by kernel_rfl) (by simp) ?_
                  refine AllReadyH.cons rfl (fun K hK => ?_) AllReadyH.nil
                  go_simp
                  refine hK.out _ _ (trivial) (fun hHeld => ?_)
                  clear hK K
                  (try simp only [Act.put, Zz])
                  refine wpAnyH_ready (rs := [8]) (by kernel_rfl) (by simp) ?_
                  refine AllReadyH.cons rfl (fun K hK => ?_) AllReadyH.nil
                  have hX2 := H7.out.2.2.2.1.below hbW
                  have r12 := row_below H7.out.2.2.2.2.1 hbW
                  refine wp_append_seg (.tmp 39) (.tmp 42) 22 rfl 0 30 i1 (.slice none 0 0) 1 24 Try.underlying22 hi1 hy0 hy1 hy2 rfl (by decide) _ n1 _ rfl r12 ⟨gs, 0, none⟩ 1 1 [.slice uu b.length uk] rfl rfl (fun j u hu => by cases j with | zero => (simp at hu; subst hu; rw [addr_add]; exact ce0 hS) | succ j => simp at hu) (by intro u hu; simp at hu; subst hu; rfl) (by omega) (by omega) (Nat.zero_le _) ?_
                  intro v8 W8 r8 g8
                  obtain ⟨a8, c8, rfl⟩ := row_slice r8
                  have hcx := g8.1.obj hX2.cell (fun ho => row_ne r12 ho hX2.cell (by decide))
                  have q8 := ce0 hcx
                  have zq8 := fz 0 hcx
                  refine hK.out _ _ (trivial) (fun hHeld => ?_)
                  clear hK K
                  (try simp only [Act.put, Zz])
                  refine tk 9 ?_ hHeld (fun w' hSw => ?_) ?_; rotate_left
                  · (go_simp; all_goals (with_reducible rfl))
                  (try simp only [Act.put, Zz])
                  refine tk 10 ?_ hHeld (fun w' hSw => ?_) ?_; rotate_left
                  · (go_simp; all_goals (with_reducible rfl))
                  (try simp only [Act.put, Zz])
                  refine wpAnyH_ready (rs := [11]) (by kernel_rfl) (by simp) ?_
                  refine AllReadyH.cons rfl (fun K hK => ?_) AllReadyH.nil
                  go_simp
                  have hent := add_ents H7.out.2.2.2.1 H7.out.2.2.2.2.1 H7.out.2.2.2.2.2.1 H7.out.2.2.2.2.2.2 hlE hbW hU r8 g8 H7.out.2.1 (fun b hb => ⟨Or.inr (Nat.le_trans HX.out.2.size (Nat.le_trans H7.out.2.2.1.size hb)), Or.inr (Nat.le_trans HX.out.2.size (Nat.le_trans H7.out.2.2.1.size hb))⟩)
                  refine hK.out _ _ (trivial) (fun hHeld => ?_)
                  clear hK K
                  (try simp only [Act.put, Zz])
                  refine wpAnyH_done (by kernel_rfl) ?_ _
                  (try simp only [Act.put, Zz])
                  clear hHeld
                  have HK := Lib.hid hent
                  clear hent
                  go_wp2
                  go_meet
                  case rel => exact ⟨_, HK.out⟩
            case rest =>
              obtain ⟨ve2, hX2, hc2, hf2⟩ := hcut
              obtain ⟨H1, hH1⟩ : ∃ H1, E1.map leaf = H1 := ⟨_, rfl⟩
              have hH32 : Len32 H1 := by rw [← hH1]; exact leafs_len E1
              have hHl : H1.length = n1 := by rw [← hH1, List.length_map]; exact hlE
              obtain ⟨wA, hwA⟩ : ∃ wA, wA = wc := ⟨_, rfl⟩
              rw [← hwA] at hX2 hc2 hf2 ⊢
              rw [hH1] at hX2
              have hO := hX2.order
              rw [hHl] at hO
              obtain ⟨oa, oc, rfl, hoc, hon, hor, -⟩ := row_slice2 hO
              obtain ⟨bm', es, clock, em, _, hm, hB⟩ : ∃ bm' es clock, Value.map (some bm) = .map (some bm') ∧ (F bm' ∨ w.heap.size ≤ bm') ∧ wA.heap[bm']? = some (.map es clock) ∧ ByIn (fun b => F b ∨ w.heap.size ≤ b) wA es clock H1 := by
                rcases hX2.by_ with ⟨h, _⟩ | h
                · cases h
                · exact h
              cases em
              obtain ⟨vl, hvl, hvF, hrun⟩ := hB.look (bm := bm) (leaf_len b)
              obtain ⟨nl, hnl⟩ : ∃ nl, (likes H1 (leaf b)).length = nl := ⟨_, rfl⟩
              obtain ⟨la, lk, rfl⟩ := row_slice hvl
              rw [hnl] at hrun
              have hpl := place_is H1 (leaf b)
              rw [hnl] at hpl
              obtain ⟨p0, hp0⟩ : ∃ p0, (ordN H1).countP (fun p => decide (cmpB p.1 (leaf b) < 0)) = p0 := ⟨_, rfl⟩
              obtain ⟨p1, hp1⟩ : ∃ p1, (ordN H1).countP (fun p => decide (cmpB p.1 (leaf b) ≤ 0)) = p1 := ⟨_, rfl⟩
              rw [hp0, hp1] at hpl
              have hps : IntKind.i64.wrap (((p0 : Nat) : Int) + ((nl : Nat) : Int)) = ((p1 : Nat) : Int) := by
                have hp1n : p1 ≤ n1 := by rw [← hp1, ← hHl, ← ordN_length H1]; exact List.countP_le_length
                rw [Go.IntWalk.i64_in] <;> omega
              have hp1n : p1 ≤ n1 := by rw [← hp1, ← hHl, ← ordN_length H1]; exact List.countP_le_length
              have cF := fun W (hW : Below wA.heap.size wA W) => cloneF_any (w := W) (a := oa) (c := oc) (L := ordN H1) hH32.ord (hor.below hW) hon (by rw [ordN_length, hHl]; omega)
              rw [ordN_length, hHl] at cF
              have hc1 := ce1 hX2.cell
              have cA := fun W (hW : Below wA.heap.size wA W) => at_any (w := W) (bx := bx) (O := ordN H1) (h := leaf b) (up_cell hW hc1) (by rw [ordN_length, hHl]; exact row_below hO hW) hH32.ord (ordN_sorted H1) (leaf_len b) (by rw [ordN_length, hHl]; omega)
              rw [hp0] at cA
              unfold hashV at cA
              have cm := ce2 hX2.cell
              have hfl : (fc (leaf b, n1)).length = 33 := fc_len (leaf_len b)
              have hrf := range_heap hf2
              have HQ := Lib.hid (And.intro hX2 (And.intro hH32 (And.intro hHl (And.intro hf2 (And.intro hp1 (And.intro hB (And.intro hc2 (And.intro hH1 hm))))))))
              have H1l : Hid (∀ b, wA.heap.size ≤ b → w.heap.size ≤ b) := fun b hb => Nat.le_trans HX.out.2.size (Nat.le_trans H7.out.2.2.1.size (Nat.le_trans hc2.size hb))
              clear hX2 hf2 hp1 hp0 hnl hvl hvF hoc hor hon hH32 hHl hO hB hc2 hH1 hwA
              go_upto_region 12 with fail
              go_cut [] from 46 to 69 (fun wx => ∃ vo2, XRaw (fun b => F b ∨ w.heap.size ≤ b) (fun b => G b ∨ w.heap.size ≤ b) wx bx ve2 vo2 (.map (some bm)) (E1 ++ [b]) (H1 ++ [leaf b]) H1 ∧ Chg (fun b => F b ∨ w.heap.size ≤ b) wA wx ∧ wx.heap[g7]? = some (.cells (fc (leaf b, n1)).toArray 62 (0, 0)))
              case first =>
                refine wp_region_held_drew (S := fun w' => w'.cell? ⟨bx, 2, none⟩ = some (.map (some bm)) ∧ w'.heap[bm]? = some (.map es clock) ∧ w'.rangeAt g7 0 (fc (leaf b, n1))) (by kernel_rfl) ⟨cm, hm, hrf⟩ (fun hHeld => ?_)
                obtain ⟨W, hW⟩ : ∃ W, wA.drew = W := ⟨_, rfl⟩
                have hbW : Below wA.heap.size wA W := by rw [← hW]; exact ⟨rfl, rfl, rfl, Nat.le_refl _, fun _ _ => rfl⟩
                rw [hW] at hHeld ⊢
                clear hW
                replace cm := up_cell hbW cm
                replace hc1 := up_cell hbW hc1
                replace hm := below_keep hbW hm
                replace hrf := range_up hbW hrf
                refine tk 0 ?_ hHeld (fun w' hSw => ?_) ?_; rotate_left
                · (go_simp; all_goals (with_reducible rfl))
                (try simp only [Act.put, Zz])
                refine tk 1 ?_ hHeld (fun w' hSw => ?_) ?_; rotate_left
                · (go_simp; all_goals (with_reducible rfl))
                (try simp only [Act.put, Zz])
                refine tk 2 ?_ hHeld (fun w' hSw => ?_) ?_; rotate_left
                · (go_simp; all_goals (with_reducible rfl))
                (try simp only [Act.put, Zz])
                refine tk 3 ?_ hHeld (fun w' hSw => ?_) ?_; rotate_left
                · (go_simp; all_goals (with_reducible rfl))
                (try simp only [Act.put, Zz])
                refine tk 6 ?_ hHeld (fun w' hSw => ?_) ?_; rotate_left
                · (go_simp; all_goals (with_reducible rfl))
                (try simp only [Act.put, Zz])
                refine tk 7 ?_ hHeld (fun w' hSw => ?_) ?_; rotate_left
                · (go_simp; all_goals (with_reducible rfl))
                (try simp only [Act.put, Zz])
                refine wpAnyH_take (i := 8) rfl (by kernel_rfl) (by kernel_rfl) (by kernel_rfl) (fun _ _ _ h => h) (yieldsIf_load_mid (by rfl) 33 _ (by rfl) g7 0 (by first | rfl | (simp [Act.eval, Act.put, Addr.add]; done)) _ _ (fun w' h => range_left h.2.2) Try.underlying33 rfl (by rw [List.length_map, leaf_len]; kernel_rfl)) hHeld ?_
                (try simp only [Act.put, Zz])
                refine tk 10 ?_ hHeld (fun w' hSw => ?_) ?_; rotate_left
                · (go_simp; all_goals (with_reducible rfl))
                (try simp only [Act.put, Zz])
                refine tk 11 ?_ hHeld (fun w' hSw => ?_) ?_; rotate_left
                · (go_simp; all_goals (with_reducible rfl))
                (try simp only [Act.put, Zz])
                refine tk 12 ?_ hHeld (fun w' hSw => ?_) ?_; rotate_left
                · (go_simp; all_goals (with_reducible rfl))
                (try simp only [Act.put, Zz])
                refine tk 13 ?_ hHeld (fun w' hSw => ?_) ?_; rotate_left
                · (have h1 := hSw.1; go_simp; all_goals (with_reducible rfl))
                (try simp only [Act.put, Zz])
                refine tk 14 ?_ hHeld (fun w' hSw => ?_) ?_; rotate_left
                · (go_simp; all_goals (with_reducible rfl))
                (try simp only [Act.put, Zz])
                refine wpAnyH_take (i := 15) rfl (by kernel_rfl) (by kernel_rfl) (by kernel_rfl) (fun _ _ _ h => h) (yieldsIf_load_mid (by rfl) 33 _ (by rfl) g7 0 (by first | rfl | (simp [Act.eval, Act.put, Addr.add]; done)) _ _ (fun w' h => range_left h.2.2) Try.underlying33 rfl (by rw [List.length_map, leaf_len]; kernel_rfl)) hHeld ?_
                (try simp only [Act.put, Zz])
                refine tk 16 (.slice la nl lk) hHeld (fun w' hSw => exec_lookup 56 (.tmp 59) (.tmp 61) rfl _ _ _ rfl rfl (hrun w' hSw.2.1)) ?_
                (try simp only [Act.put, Zz])
                refine tk 17 ?_ hHeld (fun w' hSw => ?_) ?_; rotate_left
                · (go_simp; all_goals (with_reducible rfl))
                (try simp only [Act.put, Zz])
                refine wpAnyH_take (i := 19) rfl (by kernel_rfl) (by kernel_rfl) (by kernel_rfl) (fun _ _ _ h => h) (yieldsIf_load_mid (by rfl) 62 _ (by rfl) g7 0 (by first | rfl | (simp [Act.eval, Act.put, Addr.add]; done)) _ _ (fun w' h => h.2.2) Try.underlying62 rfl (by rw [hfl]; kernel_rfl)) hHeld ?_
                (try simp only [Act.put, Zz])
                refine wpAnyH_ready (rs := [4, 20]) (by kernel_rfl) (by simp) ?_
                refine AllReadyH.cons rfl (fun K hK => ?_) (AllReadyH.cons rfl (fun K hK => ?_) AllReadyH.nil)
                · go_simp
                  refine hK.out _ _ (⟨cm, hm, hrf⟩) (fun hHeld => ?_)
                  clear hK K
                  (try simp only [Act.put, Zz])
                  refine wpAnyH_ready (rs := [5, 20]) (by kernel_rfl) (by simp) ?_
                  refine AllReadyH.cons rfl (fun K hK => ?_) (AllReadyH.cons rfl (fun K hK => ?_) AllReadyH.nil)
                  · go_simp
                    ((with_reducible refine (cF _ hbW).mono ?_); rintro _ W ⟨ca, ck, rfl, hC, hb1⟩)
                    replace hC := row_up hC hbW.size
                    replace hbW := hbW.trans (hb1.mono hbW.size)
                    replace cm := up_cell hb1 cm
                    replace hc1 := up_cell hb1 hc1
                    replace hm := below_keep hb1 hm
                    replace hrf := range_up hb1 hrf
                    refine hK.out _ _ (⟨cm, hm, hrf⟩) (fun hHeld => ?_)
                    clear hK K
                    (try simp only [Act.put, Zz])
                    refine wpAnyH_ready (rs := [9, 20]) (by kernel_rfl) (by simp) ?_
                    refine AllReadyH.cons rfl (fun K hK => ?_) (AllReadyH.cons rfl (fun K hK => ?_) AllReadyH.nil)
                    · go_simp
                      ((with_reducible refine (cA _ hbW).mono ?_); rintro _ W ⟨rfl, hb1⟩)
                      replace hbW := hbW.trans (hb1.mono hbW.size)
                      replace cm := up_cell hb1 cm
                      replace hc1 := up_cell hb1 hc1
                      replace hm := below_keep hb1 hm
                      replace hrf := range_up hb1 hrf
                      replace hC := row_below hC hb1
                      refine hK.out _ _ (⟨cm, hm, hrf⟩) (fun hHeld => ?_)
                      clear hK K
                      (try simp only [Act.put, Zz])
                      refine tk 18 ?_ hHeld (fun w' hSw => ?_) ?_; rotate_left
                      · (go_simp; all_goals (with_reducible rfl))
                      (try simp only [Act.put, Zz])
                      (try rw [hps])
                      refine wpAnyH_ready (rs := [20]) (by kernel_rfl) (by simp) ?_
                      refine AllReadyH.cons rfl (fun K hK => ?_) AllReadyH.nil
                      refine wp_of_exec (exec_bslice 55 1 #[(0, .tmp 65)] rfl _ (by simp only [List.map_toArray, List.map_cons, List.map_nil]; exact run_slice_found (leaf_len b) n1 _)) ?_
                      obtain ⟨gs, hgs⟩ : ∃ gs, W.heap.size = gs := ⟨_, rfl⟩
                      have hgne : ∀ x, (Value.slice ca n1 ck).ownBlock = some x → gs ≠ x := fun x hx e => by have h1 := (row_blk hC hx).2; omega
                      obtain ⟨W, hW', hb2, hz2, hS⟩ := al1 W (fc (leaf b, n1)).toArray 62
                      rw [hW', hgs]
                      rw [hgs] at hS
                      clear hgs hW' hz2
                      replace hbW := hbW.trans (hb2.mono hbW.size)
                      replace cm := up_cell hb2 cm
                      replace hc1 := up_cell hb2 hc1
                      replace hm := below_keep hb2 hm
                      replace hrf := range_up hb2 hrf
                      replace hC := row_below hC hb2
                      refine hK.out _ _ (⟨cm, hm, hrf⟩) (fun hHeld => ?_)
                      clear hK K
                      (try simp only [Act.put, Zz])
                      refine wpAnyH_ready (rs := [21]) (by kernel_rfl) (by simp) ?_
                      refine AllReadyH.cons rfl (fun K hK => ?_) AllReadyH.nil
                      go_simp
                      ((with_reducible refine (insertF_any (w := W) (B := wA.heap.size) (gv := gs) (k := p1) (n := n1) (c := ck) (a := ca) (xs := (ordN H1).flatMap fc) (fx := fc (leaf b, n1)) hbW.size hC fc_one hp1n (by omega) hfl (fun v hv => fc_one (L := [(leaf b, n1)]) v (by simpa using hv)) hS hgne).mono ?_); rintro _ W9 ⟨a9, c9, rfl, hI, hg9⟩)
                      have hb9 := Chg.below_new hbW hg9 (fun k hk => (row_blk hC hk).1)
                      have hcx := below_keep hb9 HQ.out.1.cell
                      have q9 := ce1 hcx
                      have zq9 := fz 1 hcx
                      refine hK.out _ _ (⟨ce2 hcx, below_keep hb9 HQ.out.2.2.2.2.2.2.2.2, range_heap (below_keep hb9 HQ.out.2.2.2.1)⟩) (fun hHeld => ?_)
                      clear hK K
                      (try simp only [Act.put, Zz])
                      refine tk 22 ?_ hHeld (fun w' hSw => ?_) ?_; rotate_left
                      · (go_simp; all_goals (with_reducible rfl))
                      (try simp only [Act.put, Zz])
                      refine tk 23 ?_ hHeld (fun w' hSw => ?_) ?_; rotate_left
                      · (go_simp; all_goals (with_reducible rfl))
                      (try simp only [Act.put, Zz])
                      refine wpAnyH_ready (rs := [24]) (by kernel_rfl) (by simp) ?_
                      refine AllReadyH.cons rfl (fun K hK => ?_) AllReadyH.nil
                      go_simp
                      rw [← HQ.out.2.2.2.2.1] at hI
                      have hent := add_order HQ.out.1 HQ.out.2.1 HQ.out.2.2.1 hbW hC hI hg9 HQ.out.2.2.2.1 (fun b hb => Or.inr (H1l.out b hb))
                      have hm9 := (Chg.set (O := fun x => x = bx) (w := W9) (a := ⟨bx, 1, none⟩) (.slice a9 (n1 + 1) c9) rfl).obj (below_keep hb9 HQ.out.2.2.2.2.2.2.2.2) (fun ho => by have h1 := below_keep hb9 HQ.out.2.2.2.2.2.2.2.2; rw [ho, hcx] at h1; cases h1)
                      refine hK.out _ _ (⟨ce2 hent.1.cell, hm9, range_heap hent.2.2⟩) (fun hHeld => ?_)
                      clear hK K
                      (try simp only [Act.put, Zz])
                      refine wpAnyH_done (by kernel_rfl) ?_ _
                      (try simp only [Act.put, Zz])
                      clear hHeld
                      have HK := Lib.hid hent
                      clear hent hI hg9 hb9 hcx hm9
                      go_wp2
                      go_meet
                      case rel => exact ⟨_, HK.out⟩
                    · refine wp_of_exec (exec_bslice 55 1 #[(0, .tmp 65)] rfl _ (by simp only [List.map_toArray, List.map_cons, List.map_nil]; exact run_slice_found (leaf_len b) n1 _)) ?_
                      obtain ⟨gs, hgs⟩ : ∃ gs, W.heap.size = gs := ⟨_, rfl⟩
                      have hgne : ∀ x, (Value.slice ca n1 ck).ownBlock = some x → gs ≠ x := fun x hx e => by have h1 := (row_blk hC hx).2; omega
                      obtain ⟨W, hW', hb2, hz2, hS⟩ := al1 W (fc (leaf b, n1)).toArray 62
                      rw [hW', hgs]
                      rw [hgs] at hS
                      clear hgs hW' hz2
                      replace hbW := hbW.trans (hb2.mono hbW.size)
                      replace cm := up_cell hb2 cm
                      replace hc1 := up_cell hb2 hc1
                      replace hm := below_keep hb2 hm
                      replace hrf := range_up hb2 hrf
                      replace hC := row_below hC hb2
                      refine hK.out _ _ (⟨cm, hm, hrf⟩) (fun hHeld => ?_)
                      clear hK K
                      (try simp only [Act.put, Zz])
                      refine wpAnyH_ready (rs := [9]) (by kernel_rfl) (by simp) ?_
                      refine AllReadyH.cons rfl (fun K hK => ?_) AllReadyH.nil
                      go_simp
                      ((with_reducible refine (cA _ hbW).mono ?_); rintro _ W ⟨rfl, hb1⟩)
                      replace hbW := hbW.trans (hb1.mono hbW.size)
                      replace cm := up_cell hb1 cm
                      replace hc1 := up_cell hb1 hc1
                      replace hm := below_keep hb1 hm
                      replace hrf := range_up hb1 hrf
                      replace hC := row_below hC hb1
                      replace hS := below_keep hb1 hS
                      refine hK.out _ _ (⟨cm, hm, hrf⟩) (fun hHeld => ?_)
                      clear hK K
                      (try simp only [Act.put, Zz])
                      refine tk 18 ?_ hHeld (fun w' hSw => ?_) ?_; rotate_left
                      · (go_simp; all_goals (with_reducible rfl))
                      (try simp only [Act.put, Zz])
                      (try rw [hps])
                      refine wpAnyH_ready (rs := [21]) (by kernel_rfl) (by simp) ?_
                      refine AllReadyH.cons rfl (fun K hK => ?_) AllReadyH.nil
                      go_simp
                      ((with_reducible refine (insertF_any (w := W) (B := wA.heap.size) (gv := gs) (k := p1) (n := n1) (c := ck) (a := ca) (xs := (ordN H1).flatMap fc) (fx := fc (leaf b, n1)) hbW.size hC fc_one hp1n (by omega) hfl (fun v hv => fc_one (L := [(leaf b, n1)]) v (by simpa using hv)) hS hgne).mono ?_); rintro _ W9 ⟨a9, c9, rfl, hI, hg9⟩)
                      have hb9 := Chg.below_new hbW hg9 (fun k hk => (row_blk hC hk).1)
                      have hcx := below_keep hb9 HQ.out.1.cell
                      have q9 := ce1 hcx
                      have zq9 := fz 1 hcx
                      refine hK.out _ _ (⟨ce2 hcx, below_keep hb9 HQ.out.2.2.2.2.2.2.2.2, range_heap (below_keep hb9 HQ.out.2.2.2.1)⟩) (fun hHeld => ?_)
                      clear hK K
                      (try simp only [Act.put, Zz])
                      refine tk 22 ?_ hHeld (fun w' hSw => ?_) ?_; rotate_left
                      · (go_simp; all_goals (with_reducible rfl))
                      (try simp only [Act.put, Zz])
                      refine tk 23 ?_ hHeld (fun w' hSw => ?_) ?_; rotate_left
                      · (go_simp; all_goals (with_reducible rfl))
                      (try simp only [Act.put, Zz])
                      refine wpAnyH_ready (rs := [24]) (by kernel_rfl) (by simp) ?_
                      refine AllReadyH.cons rfl (fun K hK => ?_) AllReadyH.nil
                      go_simp
                      rw [← HQ.out.2.2.2.2.1] at hI
                      have hent := add_order HQ.out.1 HQ.out.2.1 HQ.out.2.2.1 hbW hC hI hg9 HQ.out.2.2.2.1 (fun b hb => Or.inr (H1l.out b hb))
                      have hm9 := (Chg.set (O := fun x => x = bx) (w := W9) (a := ⟨bx, 1, none⟩) (.slice a9 (n1 + 1) c9) rfl).obj (below_keep hb9 HQ.out.2.2.2.2.2.2.2.2) (fun ho => by have h1 := below_keep hb9 HQ.out.2.2.2.2.2.2.2.2; rw [ho, hcx] at h1; cases h1)
                      refine hK.out _ _ (⟨ce2 hent.1.cell, hm9, range_heap hent.2.2⟩) (fun hHeld => ?_)
                      clear hK K
                      (try simp only [Act.put, Zz])
                      refine wpAnyH_done (by kernel_rfl) ?_ _
                      (try simp only [Act.put, Zz])
                      clear hHeld
                      have HK := Lib.hid hent
                      clear hent hI hg9 hb9 hcx hm9
                      go_wp2
                      go_meet
                      case rel => exact ⟨_, HK.out⟩
                  · refine wp_of_exec (exec_bslice 55 1 #[(0, .tmp 65)] rfl _ (by simp only [List.map_toArray, List.map_cons, List.map_nil]; exact run_slice_found (leaf_len b) n1 _)) ?_
                    obtain ⟨gs, hgs⟩ : ∃ gs, W.heap.size = gs := ⟨_, rfl⟩
                    obtain ⟨W, hW', hb2, hz2, hS⟩ := al1 W (fc (leaf b, n1)).toArray 62
                    rw [hW', hgs]
                    rw [hgs] at hS
                    clear hgs hW' hz2
                    replace hbW := hbW.trans (hb2.mono hbW.size)
                    replace cm := up_cell hb2 cm
                    replace hc1 := up_cell hb2 hc1
                    replace hm := below_keep hb2 hm
                    replace hrf := range_up hb2 hrf
                    refine hK.out _ _ (⟨cm, hm, hrf⟩) (fun hHeld => ?_)
                    clear hK K
                    (try simp only [Act.put, Zz])
                    refine wpAnyH_ready (rs := [5]) (by kernel_rfl) (by simp) ?_
                    refine AllReadyH.cons rfl (fun K hK => ?_) AllReadyH.nil
                    go_simp
                    ((with_reducible refine (cF _ hbW).mono ?_); rintro _ W ⟨ca, ck, rfl, hC, hb1⟩)
                    have hgne : ∀ x, (Value.slice ca n1 ck).ownBlock = some x → gs ≠ x := fun x hx e => by have h1 := (row_blk hC hx).1; have h2 := heap_lt hS; omega
                    replace hC := row_up hC hbW.size
                    replace hbW := hbW.trans (hb1.mono hbW.size)
                    replace cm := up_cell hb1 cm
                    replace hc1 := up_cell hb1 hc1
                    replace hm := below_keep hb1 hm
                    replace hrf := range_up hb1 hrf
                    replace hS := below_keep hb1 hS
                    refine hK.out _ _ (⟨cm, hm, hrf⟩) (fun hHeld => ?_)
                    clear hK K
                    (try simp only [Act.put, Zz])
                    refine wpAnyH_ready (rs := [9]) (by kernel_rfl) (by simp) ?_
                    refine AllReadyH.cons rfl (fun K hK => ?_) AllReadyH.nil
                    go_simp
                    ((with_reducible refine (cA _ hbW).mono ?_); rintro _ W ⟨rfl, hb1⟩)
                    replace hbW := hbW.trans (hb1.mono hbW.size)
                    replace cm := up_cell hb1 cm
                    replace hc1 := up_cell hb1 hc1
                    replace hm := below_keep hb1 hm
                    replace hrf := range_up hb1 hrf
                    replace hC := row_below hC hb1
                    replace hS := below_keep hb1 hS
                    refine hK.out _ _ (⟨cm, hm, hrf⟩) (fun hHeld => ?_)
                    clear hK K
                    (try simp only [Act.put, Zz])
                    refine tk 18 ?_ hHeld (fun w' hSw => ?_) ?_; rotate_left
                    · (go_simp; all_goals (with_reducible rfl))
                    (try simp only [Act.put, Zz])
                    (try rw [hps])
                    refine wpAnyH_ready (rs := [21]) (by kernel_rfl) (by simp) ?_
                    refine AllReadyH.cons rfl (fun K hK => ?_) AllReadyH.nil
                    go_simp
                    ((with_reducible refine (insertF_any (w := W) (B := wA.heap.size) (gv := gs) (k := p1) (n := n1) (c := ck) (a := ca) (xs := (ordN H1).flatMap fc) (fx := fc (leaf b, n1)) hbW.size hC fc_one hp1n (by omega) hfl (fun v hv => fc_one (L := [(leaf b, n1)]) v (by simpa using hv)) hS hgne).mono ?_); rintro _ W9 ⟨a9, c9, rfl, hI, hg9⟩)
                    have hb9 := Chg.below_new hbW hg9 (fun k hk => (row_blk hC hk).1)
                    have hcx := below_keep hb9 HQ.out.1.cell
                    have q9 := ce1 hcx
                    have zq9 := fz 1 hcx
                    refine hK.out _ _ (⟨ce2 hcx, below_keep hb9 HQ.out.2.2.2.2.2.2.2.2, range_heap (below_keep hb9 HQ.out.2.2.2.1)⟩) (fun hHeld => ?_)
                    clear hK K
                    (try simp only [Act.put, Zz])
                    refine tk 22 ?_ hHeld (fun w' hSw => ?_) ?_; rotate_left
                    · (go_simp; all_goals (with_reducible rfl))
                    (try simp only [Act.put, Zz])
                    refine tk 23 ?_ hHeld (fun w' hSw => ?_) ?_; rotate_left
                    · (go_simp; all_goals (with_reducible rfl))
                    (try simp only [Act.put, Zz])
                    refine wpAnyH_ready (rs := [24]) (by kernel_rfl) (by simp) ?_
                    refine AllReadyH.cons rfl (fun K hK => ?_) AllReadyH.nil
                    go_simp
                    rw [← HQ.out.2.2.2.2.1] at hI
                    have hent := add_order HQ.out.1 HQ.out.2.1 HQ.out.2.2.1 hbW hC hI hg9 HQ.out.2.2.2.1 (fun b hb => Or.inr (H1l.out b hb))
                    have hm9 := (Chg.set (O := fun x => x = bx) (w := W9) (a := ⟨bx, 1, none⟩) (.slice a9 (n1 + 1) c9) rfl).obj (below_keep hb9 HQ.out.2.2.2.2.2.2.2.2) (fun ho => by have h1 := below_keep hb9 HQ.out.2.2.2.2.2.2.2.2; rw [ho, hcx] at h1; cases h1)
                    refine hK.out _ _ (⟨ce2 hent.1.cell, hm9, range_heap hent.2.2⟩) (fun hHeld => ?_)
                    clear hK K
                    (try simp only [Act.put, Zz])
                    refine wpAnyH_done (by kernel_rfl) ?_ _
                    (try simp only [Act.put, Zz])
                    clear hHeld
                    have HK := Lib.hid hent
                    clear hent hI hg9 hb9 hcx hm9
                    go_wp2
                    go_meet
                    case rel => exact ⟨_, HK.out⟩
                · refine wp_of_exec (exec_bslice 55 1 #[(0, .tmp 65)] rfl _ (by simp only [List.map_toArray, List.map_cons, List.map_nil]; exact run_slice_found (leaf_len b) n1 _)) ?_
                  obtain ⟨gs, hgs⟩ : ∃ gs, W.heap.size = gs := ⟨_, rfl⟩
                  obtain ⟨W, hW', hb2, hz2, hS⟩ := al1 W (fc (leaf b, n1)).toArray 62
                  rw [hW', hgs]
                  rw [hgs] at hS
                  clear hgs hW' hz2
                  replace hbW := hbW.trans (hb2.mono hbW.size)
                  replace cm := up_cell hb2 cm
                  replace hc1 := up_cell hb2 hc1
                  replace hm := below_keep hb2 hm
                  replace hrf := range_up hb2 hrf
                  refine hK.out _ _ (⟨cm, hm, hrf⟩) (fun hHeld => ?_)
                  clear hK K
                  (try simp only [Act.put, Zz])
                  refine wpAnyH_ready (rs := [4]) (by kernel_rfl) (by simp) ?_
                  refine AllReadyH.cons rfl (fun K hK => ?_) AllReadyH.nil
                  go_simp
                  refine hK.out _ _ (⟨cm, hm, hrf⟩) (fun hHeld => ?_)
                  clear hK K
                  (try simp only [Act.put, Zz])
                  refine wpAnyH_ready (rs := [5]) (by kernel_rfl) (by simp) ?_
                  refine AllReadyH.cons rfl (fun K hK => ?_) AllReadyH.nil
                  go_simp
                  ((with_reducible refine (cF _ hbW).mono ?_); rintro _ W ⟨ca, ck, rfl, hC, hb1⟩)
                  have hgne : ∀ x, (Value.slice ca n1 ck).ownBlock = some x → gs ≠ x := fun x hx e => by have h1 := (row_blk hC hx).1; have h2 := heap_lt hS; omega
                  replace hC := row_up hC hbW.size
                  replace hbW := hbW.trans (hb1.mono hbW.size)
                  replace cm := up_cell hb1 cm
                  replace hc1 := up_cell hb1 hc1
                  replace hm := below_keep hb1 hm
                  replace hrf := range_up hb1 hrf
                  replace hS := below_keep hb1 hS
                  refine hK.out _ _ (⟨cm, hm, hrf⟩) (fun hHeld => ?_)
                  clear hK K
                  (try simp only [Act.put, Zz])
                  refine wpAnyH_ready (rs := [9]) (by kernel_rfl) (by simp) ?_
                  refine AllReadyH.cons rfl (fun K hK => ?_) AllReadyH.nil
                  go_simp
                  ((with_reducible refine (cA _ hbW).mono ?_); rintro _ W ⟨rfl, hb1⟩)
                  replace hbW := hbW.trans (hb1.mono hbW.size)
                  replace cm := up_cell hb1 cm
                  replace hc1 := up_cell hb1 hc1
                  replace hm := below_keep hb1 hm
                  replace hrf := range_up hb1 hrf
                  replace hC := row_below hC hb1
                  replace hS := below_keep hb1 hS
                  refine hK.out _ _ (⟨cm, hm, hrf⟩) (fun hHeld => ?_)
                  clear hK K
                  (try simp only [Act.put, Zz])
                  refine tk 18 ?_ hHeld (fun w' hSw => ?_) ?_; rotate_left
                  · (go_simp; all_goals (with_reducible rfl))
                  (try simp only [Act.put, Zz])
                  (try rw [hps])
                  refine wpAnyH_ready (rs := [21]) (by kernel_rfl) (by simp) ?_
                  refine AllReadyH.cons rfl (fun K hK => ?_) AllReadyH.nil
                  go_simp
                  ((with_reducible refine (insertF_any (w := W) (B := wA.heap.size) (gv := gs) (k := p1) (n := n1) (c := ck) (a := ca) (xs := (ordN H1).flatMap fc) (fx := fc (leaf b, n1)) hbW.size hC fc_one hp1n (by omega) hfl (fun v hv => fc_one (L := [(leaf b, n1)]) v (by simpa using hv)) hS hgne).mono ?_); rintro _ W9 ⟨a9, c9, rfl, hI, hg9⟩)
                  have hb9 := Chg.below_new hbW hg9 (fun k hk => (row_blk hC hk).1)
                  have hcx := below_keep hb9 HQ.out.1.cell
                  have q9 := ce1 hcx
                  have zq9 := fz 1 hcx
                  refine hK.out _ _ (⟨ce2 hcx, below_keep hb9 HQ.out.2.2.2.2.2.2.2.2, range_heap (below_keep hb9 HQ.out.2.2.2.1)⟩) (fun hHeld => ?_)
                  clear hK K
                  (try simp only [Act.put, Zz])
                  refine tk 22 ?_ hHeld (fun w' hSw => ?_) ?_; rotate_left
                  · (go_simp; all_goals (with_reducible rfl))
                  (try simp only [Act.put, Zz])
                  refine tk 23 ?_ hHeld (fun w' hSw => ?_) ?_; rotate_left
                  · (go_simp; all_goals (with_reducible rfl))
                  (try simp only [Act.put, Zz])
                  refine wpAnyH_ready (rs := [24]) (by kernel_rfl) (by simp) ?_
                  refine AllReadyH.cons rfl (fun K hK => ?_) AllReadyH.nil
                  go_simp
                  rw [← HQ.out.2.2.2.2.1] at hI
                  have hent := add_order HQ.out.1 HQ.out.2.1 HQ.out.2.2.1 hbW hC hI hg9 HQ.out.2.2.2.1 (fun b hb => Or.inr (H1l.out b hb))
                  have hm9 := (Chg.set (O := fun x => x = bx) (w := W9) (a := ⟨bx, 1, none⟩) (.slice a9 (n1 + 1) c9) rfl).obj (below_keep hb9 HQ.out.2.2.2.2.2.2.2.2) (fun ho => by have h1 := below_keep hb9 HQ.out.2.2.2.2.2.2.2.2; rw [ho, hcx] at h1; cases h1)
                  refine hK.out _ _ (⟨ce2 hent.1.cell, hm9, range_heap hent.2.2⟩) (fun hHeld => ?_)
                  clear hK K
                  (try simp only [Act.put, Zz])
                  refine wpAnyH_done (by kernel_rfl) ?_ _
                  (try simp only [Act.put, Zz])
                  clear hHeld
                  have HK := Lib.hid hent
                  clear hent hI hg9 hb9 hcx hm9
                  go_wp2
                  go_meet
                  case rel => exact ⟨_, HK.out⟩
              case rest =>
                obtain ⟨vo2, hX3, hc3, hf3⟩ := hcut
                obtain ⟨wB, hwB⟩ : ∃ wB, wB = wc := ⟨_, rfl⟩
                rw [← hwB] at hX3 hc3 hf3 ⊢
                clear hwB
                obtain ⟨bm', es2, clock2, em, hbF, hm2, hB2⟩ : ∃ bm' es clock, Value.map (some bm) = .map (some bm') ∧ (F bm' ∨ w.heap.size ≤ bm') ∧ wB.heap[bm']? = some (.map es clock) ∧ ByIn (fun b => F b ∨ w.heap.size ≤ b) wB es clock H1 := by
                  rcases hX3.by_ with ⟨h, _⟩ | h
                  · cases h
                  · exact h
                cases em
                obtain ⟨v, st, es1, clock1, e1, e2, e3, hrunE, hstore⟩ := hB2.entry (bm := bm) (leaf_len b)
                obtain ⟨nk, hnk⟩ : ∃ nk, (likes H1 (leaf b)).length = nk := ⟨_, rfl⟩
                have hnkn : nk ≤ n1 := by rw [← hnk, ← HQ.out.2.2.1]; exact likes_len _ _
                obtain ⟨va, vk, rfl⟩ := row_slice e1
                unfold hashV at hrunE
                rw [hnk] at hrunE
                have cm2 := ce2 hX3.cell
                have hrf2 := range_heap hf3
                have cn2 : wB.cell? ⟨g7, 32, none⟩ = some (.int .i64 (n1 : Int)) := cell_of_heap hf3 (by rw [List.getElem?_toArray]; unfold fc; rw [List.getElem?_append_right (by simp [leaf_len]), List.length_map, leaf_len]; rfl)
                have HR := Lib.hid (And.intro hX3 (And.intro hc3 (And.intro hf3 (And.intro hB2 (And.intro e1 (And.intro e2 (And.intro e3 (And.intro hm2 (And.intro hbF hnk)))))))))
                have HST := Lib.hid hstore
                clear hX3 hc3 hf3 hB2 e2 e3 hbF hstore hnk
                go_upto_region 13 with fail
                refine wp_region_held_drew (S := fun w' => w'.cell? ⟨bx, 2, none⟩ = some (.map (some bm)) ∧ w'.cell? ⟨g7, 32, none⟩ = some (.int .i64 (n1 : Int)) ∧ w'.rangeAt g7 0 (fc (leaf b, n1))) (by kernel_rfl) ⟨cm2, cn2, hrf2⟩ (fun hHeld => ?_)
                obtain ⟨W, hW⟩ : ∃ W, wB.drew = W := ⟨_, rfl⟩
                have hcW : Chg (fun x => x = bm) wB W := by rw [← hW]; exact (Chg.refl _ _).drew
                have hmW : W.heap[bm]? = some (.map es2 clock2) := by rw [← hW]; exact hm2
                rw [hW] at hHeld ⊢
                clear hW
                refine tk 0 ?_ hHeld (fun w' hSw => ?_) ?_; rotate_left
                · (go_simp; all_goals (with_reducible rfl))
                (try simp only [Act.put, Zz])
                refine tk 1 ?_ hHeld (fun w' hSw => ?_) ?_; rotate_left
                · (go_simp; all_goals (with_reducible rfl))
                (try simp only [Act.put, Zz])
                refine tk 2 ?_ hHeld (fun w' hSw => ?_) ?_; rotate_left
                · (go_simp; all_goals (with_reducible rfl))
                (try simp only [Act.put, Zz])
                refine tk 3 ?_ hHeld (fun w' hSw => ?_) ?_; rotate_left
                · (have h1 := hSw.1; go_simp; all_goals (with_reducible rfl))
                (try simp only [Act.put, Zz])
                refine tk 4 ?_ hHeld (fun w' hSw => ?_) ?_; rotate_left
                · (go_simp; all_goals (with_reducible rfl))
                (try simp only [Act.put, Zz])
                refine wpAnyH_take (i := 5) rfl (by kernel_rfl) (by kernel_rfl) (by kernel_rfl) (fun _ _ _ h => h) (yieldsIf_load_mid (by rfl) 33 _ (by rfl) g7 0 (by first | rfl | (simp [Act.eval, Act.put, Addr.add]; done)) _ _ (fun w' h => range_left h.2.2) Try.underlying33 rfl (by rw [List.length_map, leaf_len]; kernel_rfl)) hHeld ?_
                (try simp only [Act.put, Zz])
                refine tk 6 ?_ hHeld (fun w' hSw => ?_) ?_; rotate_left
                · (go_simp; all_goals (with_reducible rfl))
                (try simp only [Act.put, Zz])
                refine tk 7 ?_ hHeld (fun w' hSw => ?_) ?_; rotate_left
                · (have h1 := hSw.2.1; go_simp; all_goals (with_reducible rfl))
                (try simp only [Act.put, Zz])
                have hbxm := HR.out.1.cell
                have hg7m := HR.out.2.2.1
                refine wpAnyH_ready (rs := [8]) (by kernel_rfl) (by simp) ?_
                refine AllReadyH.cons rfl (fun K hK => ?_) AllReadyH.nil
                go_simp
                obtain ⟨gs, hgs⟩ : ∃ gs, W.heap.size = gs := ⟨_, rfl⟩
                obtain ⟨W, hW', hb2, hz2, hS⟩ := al1 W #[.int .i64 (n1 : Int)] 3
                rw [hW', hgs]
                rw [hgs] at hS
                clear hgs hW' hz2
                replace hcW := hcW.trans (Chg.of_below (O := fun x => x = bm) hb2) (fun _ h _ => h)
                replace hmW := below_keep hb2 hmW
                refine hK.out _ _ (⟨hcW.cell cm2 (fun ho => by simp only at ho; rw [ho, hm2] at hbxm; cases hbxm), hcW.cell cn2 (fun ho => by simp only at ho; rw [ho, hm2] at hg7m; cases hg7m), range_heap (hcW.obj HR.out.2.2.1 (fun ho => by rw [ho, hm2] at hg7m; cases hg7m))⟩) (fun hHeld => ?_)
                clear hK K
                (try simp only [Act.put, Zz])
                refine wpAnyH_ready (rs := [9]) (by kernel_rfl) (by simp) ?_
                refine AllReadyH.cons rfl (fun K hK => ?_) AllReadyH.nil
                refine wp_of_exec (exec_mapEntry 56 (.tmp 73) (.tmp 75) rfl _ _ _ rfl rfl (hrunE W hmW)) ?_
                have hcs := chg_setBlock hmW (.map es1 clock1)
                have hms := Go.ChangeMaps.heap_setBlock_same hmW (.map es1 clock1)
                obtain ⟨W, hW'⟩ : ∃ W', Go.ChangeMaps.setBlock W bm (.map es1 clock1) = W' := ⟨_, rfl⟩
                rw [hW'] at hcs hms ⊢
                clear hW'
                replace hS := hcs.obj hS (fun ho => by rw [ho, hmW] at hS; cases hS)
                replace hcW := hcW.trans hcs (fun _ h _ => h)
                replace hmW := hms
                clear hcs hms
                refine hK.out _ _ (⟨hcW.cell cm2 (fun ho => by simp only at ho; rw [ho, hm2] at hbxm; cases hbxm), hcW.cell cn2 (fun ho => by simp only at ho; rw [ho, hm2] at hg7m; cases hg7m), range_heap (hcW.obj HR.out.2.2.1 (fun ho => by rw [ho, hm2] at hg7m; cases hg7m))⟩) (fun hHeld => ?_)
                clear hK K
                (try simp only [Act.put, Zz])
                refine tk 10 ?_ hHeld (fun w' hSw => ?_) ?_; rotate_left
                · (go_simp; all_goals (with_reducible rfl))
                (try simp only [Act.put, Zz])
                refine tk 12 ?_ hHeld (fun w' hSw => ?_) ?_; rotate_left
                · (go_simp; all_goals (with_reducible rfl))
                (try simp only [Act.put, Zz])
                refine wpAnyH_ready (rs := [11]) (by kernel_rfl) (by simp) ?_
                refine AllReadyH.cons rfl (fun K hK => ?_) AllReadyH.nil
                have hvW := hcW.row HR.out.2.2.2.2.1 (fun b hb ho => by rw [ho] at hb; exact row_map HR.out.2.2.2.2.1 hb hm2)
                rw [HR.out.2.2.2.2.2.2.2.2.2] at hvW
                refine wp_append_seg (.tmp 76) (.tmp 79) 41 rfl 0 3 i2 (.int .i64 0) 1 8 Try.underlying41 hi2 hv0 hv1 hv2 rfl (by decide) _ nk _ rfl hvW ⟨gs, 0, none⟩ 1 1 [iv n1] rfl rfl (fun j u hu => by cases j with | zero => (simp at hu; subst hu; rw [addr_add]; exact ce0 hS) | succ j => simp at hu) (by intro u hu; simp at hu; subst hu; rfl) (by omega) (by omega) (Nat.zero_le _) ?_
                intro v8 W8 r8 g8
                obtain ⟨a8, c8, rfl⟩ := row_slice r8
                have hm8 := g8.1.obj hmW (fun ho => row_map hvW ho hmW)
                obtain ⟨es', clock', k1, k2, k3, k4, hrunS⟩ := HST.out (.slice a8 (nk + 1) c8)
                have hvo : ∀ b, (Value.slice va nk vk).ownBlock = some b → b ≠ bx ∧ b ≠ g7 := fun b hb => ⟨fun ho => row_ne HR.out.2.2.2.2.1 (by rw [HR.out.2.2.2.2.2.2.2.2.2]; exact hb) (ho ▸ hbxm) (by decide), fun ho => row_ne HR.out.2.2.2.2.1 (by rw [HR.out.2.2.2.2.2.2.2.2.2]; exact hb) (ho ▸ hg7m) (by decide)⟩
                have hbx8 := g8.1.obj (hcW.obj hbxm (fun ho => by rw [ho, hm2] at hbxm; cases hbxm)) (fun ho => (hvo _ ho).1 rfl)
                have hg78 := g8.1.obj (hcW.obj hg7m (fun ho => by rw [ho, hm2] at hg7m; cases hg7m)) (fun ho => (hvo _ ho).2 rfl)
                have cn8 := cell_of_heap hg78 (i := 32) (v := .int .i64 (n1 : Int)) (by rw [List.getElem?_toArray]; unfold fc; rw [List.getElem?_append_right (by simp [leaf_len]), List.length_map, leaf_len]; rfl)
                refine hK.out _ _ (⟨ce2 hbx8, cn8, range_heap hg78⟩) (fun hHeld => ?_)
                clear hK K
                (try simp only [Act.put, Zz])
                refine wpAnyH_ready (rs := [13]) (by kernel_rfl) (by simp) ?_
                refine AllReadyH.cons rfl (fun K hK => ?_) AllReadyH.nil
                refine wp_entryStore 56 (.tmp 73) (.tmp 82) (.tmp 81) rfl _ _ _ rfl rfl rfl (hrunS W8 hm8) ?_
                have hcs := chg_setBlock hm8 (.map es' clock')
                have hbx9 := hcs.obj hbx8 (fun ho => by rw [ho, hm8] at hbx8; cases hbx8)
                have hg79 := hcs.obj hg78 (fun ho => by rw [ho, hm8] at hg78; cases hg78)
                have cn9 := cell_of_heap hg79 (i := 32) (v := .int .i64 (n1 : Int)) (by rw [List.getElem?_toArray]; unfold fc; rw [List.getElem?_append_right (by simp [leaf_len]), List.length_map, leaf_len]; rfl)
                refine hK.out _ _ (⟨ce2 hbx9, cn9, range_heap hg79⟩) (fun hHeld => ?_)
                clear hK K
                (try simp only [Act.put, Zz])
                refine wpAnyH_done (by kernel_rfl) ?_ _
                (try simp only [Act.put, Zz])
                clear hHeld
                have hent := add_count HR.out.1 hm2 HR.out.2.2.2.1 (leaf_len b) HQ.out.2.2.1 HR.out.2.2.2.2.1 HR.out.2.2.2.2.2.1 HR.out.2.2.2.2.2.2.1 hcW hmW (by rw [HR.out.2.2.2.2.2.2.2.2.2]; exact r8) (by rw [HR.out.2.2.2.2.2.2.2.2.2]; exact g8) k1 k2 k3 k4 (fun b hb => Or.inr (H1l.out b (Nat.le_trans HR.out.2.1.size hb)))
                have HK := Lib.hid hent
                clear hent r8 g8 hm8 hrunS k1 k2 k3 k4 hbx8 hg78 cn8 hcs hbx9 hg79 cn9 hvo hvW
                go_wp2
                go_roundw
                case rel =>
                  have e : H1 ++ [leaf b] = (E ++ L.take (k + 1)).map leaf := by rw [HTS.out, List.map_append, HQ.out.2.2.2.2.2.2.2.1]; rfl
                  refine ⟨k + 1, by omega, by go_num, ve2, vo2, bm, ?_, ?_⟩
                  · have h1 := HK.out.1
                    rw [e, ← HTS.out] at h1
                    exact h1
                  · exact (((HX.out.2.trans (Chg.of_below (O := fun b => F b ∨ w.heap.size ≤ b) H7.out.2.2.1) (fun _ h _ => h)).trans HQ.out.2.2.2.2.2.2.1 (fun _ h _ => h)).trans HR.out.2.1 (fun _ h _ => h)).trans HK.out.2 (fun _ h _ => h)
                case measure => simp [RowKit.intOf]; omega
        · have e : k = L.length := by omega
          subst e
          rw [List.take_length] at hXr
          have HXr := Lib.hid (And.intro hXr hcr)
          clear hXr hcr
          go_wp2
          go_ret
          exact ⟨rfl, ⟨_, _, _, HXr.out.1⟩, HXr.out.2.mono (fun b hb hlt => by rcases hb with hb | hb; exact hb; omega)⟩

end Go.Proofs.Ytljobojdcnhecaa
