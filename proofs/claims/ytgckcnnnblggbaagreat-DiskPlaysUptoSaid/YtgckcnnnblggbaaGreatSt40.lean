/- Texts of this claim, one behind the other: RdY, RdZ. -/
import Derived.Test.YtgckcnnnblggbaaGreatSt39
import Derived.Test.YtgckcnnnblggbaaGreatSt11
set_option linter.unusedSimpArgs false
set_option linter.unusedVariables false
/- asks: SyncNames, Size, and what is no step. (printed by gen/asks2.py) -/
namespace Go.Proofs.YtgckcnnnblggbaaGreat
open Go.RowKit Go.Maps

section
variable {F G : Nat → Prop} {w : World} {v1 v2 : Option Addr} {o : Option DSt} {N : Nat}
set_option maxRecDepth 100000 in
set_option maxHeartbeats 4000000 in
theorem asks_syncNames (h : PairO F G w v1 o v2 o) {k t : List UInt8} {who at_ n sn st : Int} {da ka : Option Addr} {dl dc kl kc : Nat} (hok : ∀ s, o = some s → s.Ok N) (hN : N + 1 < maxList) :
    Calls Tryz.prog 9 #[.pointer v1, .pointer v2, .agg #[.int .i64 5, .int .i64 who, .string ⟨k.toArray⟩, .string ⟨t.toArray⟩, .int .i64 at_, .int .i64 n, .slice da dl dc, .int .i64 sn, .slice ka kl kc, .int .i64 st]] w fun e w' => e = .returned (.bool true) ∧ ∃ F' G', PairO F' G' w' v1 (actO (fun s => s.syncNames) o).1 v2 (actO (fun s => s.syncNames) o).1 ∧ Moves F G F' G' w w' := by
  obtain ⟨w1, hw1⟩ : ∃ w1, w.alloc (.cells #[.int .i64 5, .int .i64 who, .string ⟨k.toArray⟩, .string ⟨t.toArray⟩, .int .i64 at_, .int .i64 n, .slice da dl dc, .int .i64 sn, .slice ka kl kc, .int .i64 st] 41) = w1 := ⟨_, rfl⟩
  have hb1 : Below w.heap.size w w1 := by rw [← hw1]; exact below_alloc _ _
  have hbx : w1.heap[w.heap.size]? = some (.cells #[.int .i64 5, .int .i64 who, .string ⟨k.toArray⟩, .string ⟨t.toArray⟩, .int .i64 at_, .int .i64 n, .slice da dl dc, .int .i64 sn, .slice ka kl kc, .int .i64 st] 41 (0, 0)) := by rw [← hw1]; exact World.alloc_heap_new w _
  have hz1 : w1.heap.size = w.heap.size + 1 := by rw [← hw1]; simp
  have c0 := cell_of_heap hbx (i := 0) (v := .int .i64 5) (by rfl)
  have c2 := cell_of_heap hbx (i := 2) (v := .string ⟨k.toArray⟩) (by rfl)
  have hcc := (h.below hb1).syncNames1 hok hN
  have M0 : Moves F G F G w w1 := Moves.of_below hb1
  have HP := Lib.hid h
  clear h hbx
  go_enter Tryz.func9, Tryz.ntmps9
  go_wp2_with (first | rw [hw1] | (go_at_call 45; refine hcc.mono ?_; rintro _ w2 ⟨rfl, F1, G1, P1, M1⟩; have hce := P1.syncNames2 hok hN) | (go_at_call 8; refine (num_any _ _).mono ?_; rintro _ wn ⟨rfl, rfl⟩) | (go_at_call 46; refine hce.mono ?_; rintro _ w3 ⟨rfl, F2, G2, P2, M2⟩))
  go_ret
  exact ⟨rfl, F2, G2, P2, (M0.trans M1).trans M2⟩
set_option maxRecDepth 100000 in
set_option maxHeartbeats 4000000 in
theorem asks_size (h : PairO F G w v1 o v2 o) {k t : List UInt8} {who at_ n sn st : Int} {da ka : Option Addr} {dl dc kl kc : Nat} (hk : k.length ≤ maxLen) (hok : ∀ s, o = some s → s.Ok N) (hN : N < maxList) :
    Calls Tryz.prog 9 #[.pointer v1, .pointer v2, .agg #[.int .i64 9, .int .i64 who, .string ⟨k.toArray⟩, .string ⟨t.toArray⟩, .int .i64 at_, .int .i64 n, .slice da dl dc, .int .i64 sn, .slice ka kl kc, .int .i64 st]] w fun e w' => e = .returned (.bool true) ∧ ∃ F' G', PairO F' G' w' v1 o v2 o ∧ Moves F G F' G' w w' := by
  obtain ⟨w1, hw1⟩ : ∃ w1, w.alloc (.cells #[.int .i64 9, .int .i64 who, .string ⟨k.toArray⟩, .string ⟨t.toArray⟩, .int .i64 at_, .int .i64 n, .slice da dl dc, .int .i64 sn, .slice ka kl kc, .int .i64 st] 41) = w1 := ⟨_, rfl⟩
  have hb1 : Below w.heap.size w w1 := by rw [← hw1]; exact below_alloc _ _
  have hbx : w1.heap[w.heap.size]? = some (.cells #[.int .i64 9, .int .i64 who, .string ⟨k.toArray⟩, .string ⟨t.toArray⟩, .int .i64 at_, .int .i64 n, .slice da dl dc, .int .i64 sn, .slice ka kl kc, .int .i64 st] 41 (0, 0)) := by rw [← hw1]; exact World.alloc_heap_new w _
  have hz1 : w1.heap.size = w.heap.size + 1 := by rw [← hw1]; simp
  have c0 := cell_of_heap hbx (i := 0) (v := .int .i64 9) (by rfl)
  have c2 := cell_of_heap hbx (i := 2) (v := .string ⟨k.toArray⟩) (by rfl)
  have h1 := h.below hb1
  have hcc := h1.size1 hk hok hN
  have hce := fun (W : World) (hW : Below w1.heap.size w1 W) => (h1.below hW).size2 (k := k) hok hN
  have HP := Lib.hid h1
  clear h h1 hbx
  go_enter Tryz.func9, Tryz.ntmps9
  go_wp2_with (first | rw [hw1] | (go_at_call 54; refine hcc.mono ?_; rintro _ w2 ⟨rfl, hb2⟩; have c22 := (hb2.cell (p := ⟨w.heap.size, 2, none⟩) (by show w.heap.size < _; omega)).trans c2; have hcf := hce w2 hb2) | (go_at_call 8; refine (num_any _ _).mono ?_; rintro _ wn ⟨rfl, rfl⟩) | (go_at_call 55; refine hcf.mono ?_; rintro _ w3 ⟨rfl, hb3⟩))
  go_ret
  have hbb := hb2.trans (hb3.mono hb2.size)
  exact ⟨rfl, F, G, HP.out.below hbb, Moves.of_below (hb1.trans (hbb.mono hb1.size))⟩
set_option maxRecDepth 100000 in
set_option maxHeartbeats 4000000 in
theorem asks_other (h : PairO F G w v1 o v2 o) {k t : List UInt8} {who at_ n sn st : Int} {da ka : Option Addr} {dl dc kl kc : Nat} {kind : Int} (hkind : ¬ (1 ≤ kind ∧ kind ≤ 9)) (hk12 : kind ≠ 12) (hk13 : kind ≠ 13) :
    Calls Tryz.prog 9 #[.pointer v1, .pointer v2, .agg #[.int .i64 kind, .int .i64 who, .string ⟨k.toArray⟩, .string ⟨t.toArray⟩, .int .i64 at_, .int .i64 n, .slice da dl dc, .int .i64 sn, .slice ka kl kc, .int .i64 st]] w fun e w' => e = .returned (.bool true) ∧ ∃ F' G', PairO F' G' w' v1 o v2 o ∧ Moves F G F' G' w w' := by
  obtain ⟨w1, hw1⟩ : ∃ w1, w.alloc (.cells #[.int .i64 kind, .int .i64 who, .string ⟨k.toArray⟩, .string ⟨t.toArray⟩, .int .i64 at_, .int .i64 n, .slice da dl dc, .int .i64 sn, .slice ka kl kc, .int .i64 st] 41) = w1 := ⟨_, rfl⟩
  have hb1 : Below w.heap.size w w1 := by rw [← hw1]; exact below_alloc _ _
  have hbx : w1.heap[w.heap.size]? = some (.cells #[.int .i64 kind, .int .i64 who, .string ⟨k.toArray⟩, .string ⟨t.toArray⟩, .int .i64 at_, .int .i64 n, .slice da dl dc, .int .i64 sn, .slice ka kl kc, .int .i64 st] 41 (0, 0)) := by rw [← hw1]; exact World.alloc_heap_new w _
  have hz1 : w1.heap.size = w.heap.size + 1 := by rw [← hw1]; simp
  have c0 := cell_of_heap hbx (i := 0) (v := .int .i64 kind) (by rfl)
  have c2 := cell_of_heap hbx (i := 2) (v := .string ⟨k.toArray⟩) (by rfl)
  have z1 : (kind == 1) = false := beq_eq_false_iff_ne.2 (by omega)
  have z2 : (kind == 2) = false := beq_eq_false_iff_ne.2 (by omega)
  have z3 : (kind == 3) = false := beq_eq_false_iff_ne.2 (by omega)
  have z4 : (kind == 4) = false := beq_eq_false_iff_ne.2 (by omega)
  have z5 : (kind == 5) = false := beq_eq_false_iff_ne.2 (by omega)
  have z6 : (kind == 6) = false := beq_eq_false_iff_ne.2 (by omega)
  have z7 : (kind == 7) = false := beq_eq_false_iff_ne.2 (by omega)
  have z8 : (kind == 8) = false := beq_eq_false_iff_ne.2 (by omega)
  have z9 : (kind == 9) = false := beq_eq_false_iff_ne.2 (by omega)
  have z12 : (kind == 12) = false := beq_eq_false_iff_ne.2 (by omega)
  have z13 : (kind == 13) = false := beq_eq_false_iff_ne.2 (by omega)
  have HP := Lib.hid (h.below hb1)
  clear h hbx hkind hk12 hk13
  go_enter Tryz.func9, Tryz.ntmps9
  go_wp2_with (first | rw [hw1])
  go_ret
  exact ⟨rfl, F, G, HP.out, Moves.of_below hb1⟩
end

end Go.Proofs.YtgckcnnnblggbaaGreat
/- Disk: Read: what it tells lies in a row of the call's own. (printed by gen/readown.py out of XDkN, XDk9) -/
namespace Go.Proofs.YtgckcnnnblggbaaGreat
open Go.RowKit Go.Maps

set_option maxRecDepth 100000 in
set_option maxHeartbeats 1000000 in
theorem clone_own (a : Option Addr) (c : Nat) (l : List UInt8) (w : World) (hnil : a = none → c = 0) (hrow : RowAt w a (l.map bv)) (hl : l.length ≤ 140737488355328) :
    Calls Tryz.prog 30 #[.slice a l.length c] w fun e w' => ∃ v, e = .returned v ∧ w'.ownsRow w.heap.size 5 1 v l.length (l.map bv) ∧ Below w.heap.size w w' := by
  obtain ⟨i0, hi, hz0, hz1, hz2⟩ := info_parts Tryz.info5
  have hq : ∀ (w : World) (a : Option Addr) (n c n' c' : Nat), (binOp .eql 36 (.slice a n c) (.slice none n' c')).run Tryz.prog w = .ok (.bool a.isNone) w := fun w a n c n' c' => Lib.run_eql_slice_nil w _ _ a n c n' c' Tryz.underlying36
  cases a with
  | none =>
    obtain rfl := hnil rfl
    have hl0 : l = [] := by
      by_cases h : l = []
      · exact h
      · obtain ⟨b, off, e, _⟩ := hrow (by simpa using h); cases e
    subst hl0
    go_enter Tryz.func30, Tryz.ntmps30
    go_wp2
    go_ret
    exact ⟨_, rfl, World.ownsRow_nil _ _ _ _, Below.refl _ _⟩
  | some x =>
    have hm : maxLen = 9223372036854775807 := rfl
    go_enter Tryz.func30, Tryz.ntmps30
    go_wp2_with (at_builtin; go_loud (refine wpList_append_any _ rfl (.tmp 5) (.tmp 6) 36 rfl w.heap.size 5 i0 (.int .u8 0) 1 Tryz.underlying36 hi hz0 hz1 hz2 rfl _ 0 [] rfl (World.ownsRow_made w #[] 0 (Nat.le_refl _) (Nat.zero_le _) (by simp)) (some x) l.length c (l.map bv) rfl (by simp) hnil (hrow.below (below_alloc w _)) (by intro u hu; obtain ⟨_, _, rfl⟩ := List.mem_map.1 hu; rfl) (by omega) (by omega) (by rw [World.size_alloc]; omega) ?_))
    intro v1 w1 hown1 hg1
    have hown1 : w1.ownsRow w.heap.size 5 1 v1 l.length (l.map bv) := by simpa using hown1
    have hb : Below w.heap.size w w1 := (below_alloc w _).grown hg1 (by rw [World.size_alloc]; omega) (by intro k hk; simp [Value.ownBlock] at hk; omega)
    obtain ⟨sa, sc, rfl, _, _⟩ := RowAt.of_owns hown1
    go_wp2
    go_ret
    exact ⟨_, rfl, hown1, hb⟩

set_option maxRecDepth 100000 in
set_option maxHeartbeats 4000000 in
theorem read1_own {w : World} {R : Nat → Prop} {b : Nat} {vd vs' : Value} {e' : TypeId} {l : List UInt8} (hfh : w.heap[b]? = some (.cells #[vd, vs'] e' (0, 0))) (hbd : BytesIn w R vd l) (hl : l.length ≤ maxFile)
    {ba bn bo : Nat} {at_ n : Int} (ca : w.cell? ⟨ba, 0, none⟩ = some (.int .i64 at_)) (cn : w.cell? ⟨bn, 0, none⟩ = some (.int .i64 n)) (co : w.cell? ⟨bo, 0, none⟩ = some (.slice none 0 0)) (zo : w.frozen? ⟨bo, 0, none⟩ = false) (h64 : -9223372036854775808 ≤ at_ ∧ at_ < 9223372036854775808) :
    Calls Tryz.prog 94 #[.pointer (some ⟨b, 0, none⟩), .pointer (some ⟨ba, 0, none⟩), .pointer (some ⟨bn, 0, none⟩), .pointer (some ⟨bo, 0, none⟩)] w fun e w' =>
      ∃ v, e = .returned (.int .i64 v) ∧ v = ((readAt l at_ n).2 : Int) ∧ Chg (· = bo) w w' ∧ ∃ U, w'.cell? ⟨bo, 0, none⟩ = some U ∧ w'.ownsRow w.heap.size 5 1 U ((readAt l at_ n).1).length (((readAt l at_ n).1).map bv) := by
  have hmf : maxFile = 1099511627776 := rfl
  obtain ⟨da, dc, rfl, hdl, hdn, hdr⟩ := hbd.row
  have f0 := cell_of_heap hfh (i := 0) (v := .slice da l.length dc) (by rfl)
  by_cases e1 : at_ < 0
  · have he : readAt l at_ n = ([], 2) := by unfold readAt; rw [if_pos (.inl e1)]
    rw [he]
    clear he
    have g1 : decide (at_ < 0) = true := by simpa using e1
    go_enter Tryz.func94, Tryz.ntmps94
    go_wp2
    go_ret
    exact ⟨_, rfl, rfl, Chg.refl _ _, _, co, World.ownsRow_nil _ _ _ _⟩
  have g1 : decide (at_ < 0) = false := by simpa using e1
  by_cases e2 : n < 0
  · have he : readAt l at_ n = ([], 2) := by unfold readAt; rw [if_pos (.inr e2)]
    rw [he]
    clear he
    have g2 : decide (n < 0) = true := by simpa using e2
    go_enter Tryz.func94, Tryz.ntmps94
    go_wp2
    go_ret
    exact ⟨_, rfl, rfl, Chg.refl _ _, _, co, World.ownsRow_nil _ _ _ _⟩
  have g2 : decide (n < 0) = false := by simpa using e2
  by_cases e3 : (l.length : Int) < at_
  · have he : readAt l at_ n = ([], 4) := by unfold readAt; rw [if_neg (by rintro (h | h); exact e1 h; exact e2 h), if_pos e3]
    rw [he]
    clear he
    have g3 : decide ((l.length : Int) < at_) = true := by simpa using e3
    generalize l.length = ll at *
    go_enter Tryz.func94, Tryz.ntmps94
    go_wp2
    go_quiet (fail)
    have hcn := (Chg.refl (· = bo) w).drewN nq
    have co' : (w.drewN nq).cell? ⟨bo, 0, none⟩ = some (.slice none 0 0) := co
    go_wp2
    go_ret
    exact ⟨_, rfl, rfl, hcn, _, co', World.ownsRow_nil _ _ _ _⟩
  have g3 : decide ((l.length : Int) < at_) = false := by simpa using e3
  obtain ⟨q, rfl⟩ : ∃ q : Nat, at_ = (q : Int) := ⟨at_.toNat, by omega⟩
  obtain ⟨m, rfl⟩ : ∃ m : Nat, n = (m : Int) := ⟨n.toNat, by omega⟩
  have he : readAt l q m = ((l.drop q).take m, 0) := by unfold readAt; rw [if_neg (by rintro (h | h); exact e1 h; exact e2 h), if_neg e3]; simp
  rw [he]
  clear he
  have hql : q ≤ l.length := by omega
  have hsl1 := run_slice_lo (P := Tryz.prog) 36 5 Tryz.underlying36 Tryz.sizeOf5 da l.length dc q hql
  have hrow2 : RowAt w (subAt da dc q) ((l.drop q).map bv) := by rw [List.map_drop]; exact hdr.drop dc q (by simpa using hdl)
  have hnil2 : subAt da dc q = none → dc - q = 0 := fun e => by have := hdn (subAt_none.1 e); omega
  have hdln : (l.drop q).length = l.length - q := by simp
  generalize hSA : subAt da dc q = sa at *
  by_cases e4 : m ≤ l.length - q
  · have htk : ((l.drop q).take m).length = m := by simp; omega
    have hsl2 := run_slice_hi (P := Tryz.prog) 36 5 Tryz.underlying36 Tryz.sizeOf5 sa (l.length - q) (dc - q) m (by omega)
    have hC := clone_own sa (dc - q) ((l.drop q).take m)
    rw [htk] at hC
    have hrow3 : RowAt w sa (((l.drop q).take m).map bv) := by rw [List.map_take]; exact hrow2.take m
    have HC := Lib.hid hC; clear hC
    have hm1 : (m : Int) ≤ ((l.length - q : Nat) : Int) := by omega
    have hcast : ((l.length - q : Nat) : Int) = (l.length : Int) - (q : Int) := by omega
    go_enter Tryz.func94, Tryz.ntmps94
    go_wp2
    go_quiet (fail)
    have hb3 : Below w.heap.size w (w.drewN nq) := below_drewN (Below.refl _ _) nq
    have cn3 := (hb3.cell (p := ⟨bn, 0, none⟩) (cell_lt cn)).trans cn
    have ca3 := (hb3.cell (p := ⟨ba, 0, none⟩) (cell_lt ca)).trans ca
    have f03 := (hb3.cell (p := ⟨b, 0, none⟩) (cell_lt f0)).trans f0
    generalize w.drewN nq = w3 at *
    go_wp2
    go_quiet (fail)
    have hb4 : Below w.heap.size w (w3.drewN nq) := below_drewN hb3 nq
    clear cn3 ca3 f03
    generalize w3.drewN nq = w4 at *
    have cn4 := (hb4.cell (p := ⟨bn, 0, none⟩) (cell_lt cn)).trans cn
    have co4 := (hb4.cell (p := ⟨bo, 0, none⟩) (cell_lt co)).trans co
    have zo4 := (hb4.frozen (p := ⟨bo, 0, none⟩) (cell_lt co)).trans zo
    have hr4 := hrow3.below hb4
    clear ca cn f0 hsl1
    go_wp2_with fail
    rw [show (min (m : Int) ((l.length : Int) - (q : Int))).toNat = m by omega]
    refine (HC.out w4 hnil2 hr4 (by omega)).mono ?_
    rintro _ w5 ⟨U, rfl, hU5, hb5⟩
    obtain ⟨ua, uc, rfl, _, _⟩ := RowAt.of_owns hU5
    have co5 := (hb5.cell (p := ⟨bo, 0, none⟩) (cell_lt co4)).trans co4
    have zo5 := (hb5.frozen (p := ⟨bo, 0, none⟩) (cell_lt co4)).trans zo4
    have hlt4 : bo < w4.heap.size := cell_lt co4
    obtain ⟨L, hL⟩ : ∃ L, L = (l.drop q).take m := ⟨_, rfl⟩
    rw [← hL] at hU5
    have HLL := Lib.hid (show L.length = m from by rw [hL, List.length_take, List.length_drop]; omega)
    have HL := Lib.hid hL
    clear hL HC
    have hc5 : Chg (· = bo) w5 (w5.setCell ⟨bo, 0, none⟩ (.slice ua m uc)) := Chg.set _ rfl
    have hs4 := hb4.size
    have hsz : (w5.setCell ⟨bo, 0, none⟩ (.slice ua m uc)).heap.size = w5.heap.size := by simp [World.setCell]
    have hUf := ownsRow_base_le (base' := w.heap.size) (hc5.row hU5 (fun y hy e => by have := (hU5.lt y hy).1; omega)) (by omega)
    have cof : (w5.setCell ⟨bo, 0, none⟩ (.slice ua m uc)).cell? ⟨bo, 0, none⟩ = some (.slice ua m uc) := by go_simp
    have hcf : Chg (· = bo) w (w5.setCell ⟨bo, 0, none⟩ (.slice ua m uc)) := ((Chg.of_below hb4).trans (Chg.of_below (O := (· = bo)) hb5) (fun _ h _ => h)).trans hc5 (fun _ h _ => h)
    clear hb4 hb5 hU5 hc5 hr4 hsz
    go_wp2
    go_ret
    exact ⟨_, rfl, rfl, hcf, _, cof, by rw [← HL.out, HLL.out]; exact hUf⟩
  · have htk : (l.drop q).take m = l.drop q := List.take_of_length_le (by omega)
    rw [htk]
    have hsl2 := run_slice_hi (P := Tryz.prog) 36 5 Tryz.underlying36 Tryz.sizeOf5 sa (l.length - q) (dc - q) (l.length - q) (by omega)
    have hC := clone_own sa (dc - q) (l.drop q)
    rw [hdln] at hC
    have hrow3 := hrow2
    have HC := Lib.hid hC; clear hC
    have hcast : ((l.length - q : Nat) : Int) = (l.length : Int) - (q : Int) := by omega
    go_enter Tryz.func94, Tryz.ntmps94
    go_wp2
    go_quiet (fail)
    have hb3 : Below w.heap.size w (w.drewN nq) := below_drewN (Below.refl _ _) nq
    have cn3 := (hb3.cell (p := ⟨bn, 0, none⟩) (cell_lt cn)).trans cn
    have ca3 := (hb3.cell (p := ⟨ba, 0, none⟩) (cell_lt ca)).trans ca
    have f03 := (hb3.cell (p := ⟨b, 0, none⟩) (cell_lt f0)).trans f0
    generalize w.drewN nq = w3 at *
    go_wp2
    go_quiet (fail)
    have hb4 : Below w.heap.size w (w3.drewN nq) := below_drewN hb3 nq
    clear cn3 ca3 f03
    generalize w3.drewN nq = w4 at *
    have cn4 := (hb4.cell (p := ⟨bn, 0, none⟩) (cell_lt cn)).trans cn
    have co4 := (hb4.cell (p := ⟨bo, 0, none⟩) (cell_lt co)).trans co
    have zo4 := (hb4.frozen (p := ⟨bo, 0, none⟩) (cell_lt co)).trans zo
    have hr4 := hrow3.below hb4
    clear ca cn f0 hsl1
    go_wp2_with fail
    rw [show (min (m : Int) ((l.length : Int) - (q : Int))).toNat = l.length - q by omega]
    refine (HC.out w4 hnil2 hr4 (by omega)).mono ?_
    rintro _ w5 ⟨U, rfl, hU5, hb5⟩
    obtain ⟨ua, uc, rfl, _, _⟩ := RowAt.of_owns hU5
    have co5 := (hb5.cell (p := ⟨bo, 0, none⟩) (cell_lt co4)).trans co4
    have zo5 := (hb5.frozen (p := ⟨bo, 0, none⟩) (cell_lt co4)).trans zo4
    have hlt4 : bo < w4.heap.size := cell_lt co4
    obtain ⟨L, hL⟩ : ∃ L, L = l.drop q := ⟨_, rfl⟩
    rw [← hL] at hU5
    have HLL := Lib.hid (show L.length = (l.length - q) from by rw [hL, List.length_drop])
    have HL := Lib.hid hL
    clear hL HC
    have hc5 : Chg (· = bo) w5 (w5.setCell ⟨bo, 0, none⟩ (.slice ua (l.length - q) uc)) := Chg.set _ rfl
    have hs4 := hb4.size
    have hsz : (w5.setCell ⟨bo, 0, none⟩ (.slice ua (l.length - q) uc)).heap.size = w5.heap.size := by simp [World.setCell]
    have hUf := ownsRow_base_le (base' := w.heap.size) (hc5.row hU5 (fun y hy e => by have := (hU5.lt y hy).1; omega)) (by omega)
    have cof : (w5.setCell ⟨bo, 0, none⟩ (.slice ua (l.length - q) uc)).cell? ⟨bo, 0, none⟩ = some (.slice ua (l.length - q) uc) := by go_simp
    have hcf : Chg (· = bo) w (w5.setCell ⟨bo, 0, none⟩ (.slice ua (l.length - q) uc)) := ((Chg.of_below hb4).trans (Chg.of_below (O := (· = bo)) hb5) (fun _ h _ => h)).trans hc5 (fun _ h _ => h)
    clear hb4 hb5 hU5 hc5 hr4 hsz
    go_wp2
    go_ret
    exact ⟨_, rfl, rfl, hcf, _, cof, by rw [← HL.out, HLL.out]; exact hUf⟩

set_option maxRecDepth 100000 in
set_option maxHeartbeats 4000000 in
theorem Read_own {w : World} {p : Nat} {s : DSt} {R : Nat → Prop} {mf mn ms : Nat} {fb : List Nat} {vs vw : Value} {ss : List Value} {ws : List (List Value)} {e : TypeId} (h : DiskP w p s R mf mn ms fb vs vw ss ws e)
    {k : List UInt8} (hk : k.length ≤ maxLen) {N : Nat} (hok : s.Ok N) (hN : N < maxList) {at_ n : Int} (h64 : -9223372036854775808 ≤ at_ ∧ at_ < 9223372036854775808) :
    Calls Tryz.prog 51 #[.pointer (some ⟨p, 0, none⟩), .string ⟨k.toArray⟩, .int .i64 at_, .int .i64 n] w fun e w' => ∃ U, e = .returned (.tuple #[U, .int .i64 ((s.read k at_ n).2 : Int)]) ∧ w'.ownsRow w.heap.size 5 1 U ((s.read k at_ n).1).length (((s.read k at_ n).1).map bv) ∧ Below w.heap.size w w' := by
  obtain ⟨w3, hw3⟩ : ∃ w3, ((w.alloc (.cells #[.int .i64 at_] 2)).alloc (.cells #[.int .i64 n] 3)).alloc (.cells #[.slice none 0 0] 36) = w3 := ⟨_, rfl⟩
  have hb3 : Below w.heap.size w w3 := by rw [← hw3]; exact ((below_alloc w _).alloc (by simp) _).alloc (by simp; omega) _
  have hz3 : w3.heap.size = w.heap.size + 1 + 1 + 1 := by rw [← hw3]; simp
  have hca : Boxed w3 w.heap.size 2 (.int .i64 at_) := by rw [← hw3]; exact ((Boxed.new _ _ _).alloc _).alloc _
  have hcn : Boxed w3 (w.heap.size + 1) 3 (.int .i64 n) := by rw [← hw3]; have := (Boxed.new (w.alloc (.cells #[.int .i64 at_] 2)) 3 (.int .i64 n)).alloc (.cells #[.slice none 0 0] 36); rwa [World.size_alloc] at this
  have hco : Boxed w3 (w.heap.size + 1 + 1) 36 (.slice none 0 0) := by rw [← hw3]; have := Boxed.new ((w.alloc (.cells #[.int .i64 at_] 2)).alloc (.cells #[.int .i64 n] 3)) 36 (.slice none 0 0); rwa [World.size_alloc, World.size_alloc] at this
  have h3 := h.below hb3
  have hmx : maxList = 4194304 := rfl
  cases hf : nlFind s.names k with
  | none =>
    have he : s.read k at_ n = ([], 7) := by unfold DSt.read; rw [hf]
    rw [he]
    have hlk := fun f => look_none h3 hk hf f
    have hco1 := hco.cell
    clear he
    have HZ := Lib.hid hz3; clear hz3
    go_enter Tryz.func51, Tryz.ntmps51
    go_wp2_with (go_at_call 93; refine (hlk _).mono ?_; rintro e1 w4 ⟨rfl, rfl⟩)
    go_ret2
    exact ⟨_, rfl, World.ownsRow_nil _ _ _ _, hb3⟩
  | some f =>
    rw [read_some hf]
    have hn := (hok.names _ (nlFind_mem hf)).1
    have hnn : f ≤ 4194304 := by have := hok.manyFiles; omega
    obtain ⟨b, e', vd, vs', hfb, hfh, hbd, _, _⟩ := h3.file_at (n := f) hn (by omega)
    have hr := read1_own hfh hbd (hok.stands_le f) hca.cell hcn.cell hco.cell hco.frozen h64
    have hlk := look_some h3 hk hf hfb (by omega) 94 #[.pointer (some ⟨w.heap.size, 0, none⟩), .pointer (some ⟨w.heap.size + 1, 0, none⟩), .pointer (some ⟨w.heap.size + 1 + 1, 0, none⟩)] enters_read1 (fun v w' => v = ((readAt (s.stands f) at_ n).2 : Int) ∧ Chg (· = w.heap.size + 1 + 1) w3 w' ∧ ∃ U, w'.cell? ⟨w.heap.size + 1 + 1, 0, none⟩ = some U ∧ w'.ownsRow w3.heap.size 5 1 U ((readAt (s.stands f) at_ n).1).length (((readAt (s.stands f) at_ n).1).map bv)) hr
    clear hr hfh hbd
    have HZ := Lib.hid hz3; clear hz3
    go_enter Tryz.func51, Tryz.ntmps51
    go_wp2_with (go_at_call 93; refine hlk.mono ?_; rintro e1 w4 ⟨v, rfl, rfl, hc4, U, hU, hb4⟩; obtain ⟨ua, uc, rfl, _, _⟩ := RowAt.of_owns hb4)
    go_ret2
    have hs := hb3.size
    exact ⟨_, rfl, ownsRow_base_le hb4 hs, hb3.trans ⟨hc4.os, hc4.tape, hc4.output, hc4.size, fun y hy => hc4.block y (by omega) (by omega)⟩⟩

end Go.Proofs.YtgckcnnnblggbaaGreat
