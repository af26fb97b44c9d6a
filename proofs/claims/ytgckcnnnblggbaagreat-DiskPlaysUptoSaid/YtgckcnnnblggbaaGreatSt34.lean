/- Texts of this claim, one behind the other: RdU. -/
import Derived.Test.YtgckcnnnblggbaaGreatSt33
import Derived.Deep.CutRange
import Derived.Deep.CutBlock
set_option linter.unusedSimpArgs false
set_option linter.unusedVariables false
/- The document's disk: Stop. -/
namespace Go.Proofs.YtgckcnnnblggbaaGreat
open Go.RowKit Go.Maps

theorem NamedIn.widen {w : World} {R R' : Nat → Prop} {v : Value} {l : NL} (h : NamedIn w R v l) (hR : ∀ b, R b → R' b) : NamedIn w R' v l := ⟨h.1, fun b hb => hR b (h.2 b hb)⟩
theorem NamedIn.belowIn {w0 w w' : World} {R : Nat → Prop} {v : Value} {l : NL} (h : NamedIn w (fun b => R b ∨ NewIn w0 w b) v l) (hb : Below w.heap.size w w') : NamedIn w' (fun b => R b ∨ NewIn w0 w' b) v l :=
  ⟨(Chg.of_below (O := fun _ => False) hb).row h.1 (fun _ _ h => h), fun b hb' => (h.2 b hb').imp id (fun h => ⟨h.1, by have := h.2; have := hb.size; omega⟩)⟩

section
variable {w : World} {r : Nat} {s : DSt} {R : Nat → Prop} {N : Nat}
set_option maxRecDepth 100000 in
set_option maxHeartbeats 16000000 in
theorem rStop_any (h : RAt w r s R) (hk : s.Ok N) (hN : N ≤ 4194304) {names torn : Int} {ka : Option Addr} {kc : Nat} {keep : List Bool} (hkrow : RowAt w ka (keep.map Value.bool)) (hkeep : keep.length ≤ maxLen) :
    Calls Tryz.prog 11 #[.pointer (some ⟨r, 0, none⟩), .agg #[.int .i64 names, .slice ka keep.length kc, .int .i64 torn]] w fun e w' => ∃ po, e = .returned (.pointer (some ⟨po, 0, none⟩)) ∧ w.heap.size ≤ po ∧ (∃ R', RAt w' po (s.stop names keep torn) R' ∧ ∀ b, R' b → w.heap.size ≤ b) ∧ Below w.heap.size w w' := by
  have hmax : maxLen = 9223372036854775807 := rfl
  have hmf : maxFile = 1099511627776 := rfl
  obtain ⟨i1, hi1, hw0, hw1, hw2⟩ := info_parts Tryz.info56
  have hrl := h.r_lt
  obtain ⟨W0, hW0⟩ : ∃ W0, w.alloc (.cells #[.int .i64 names, .slice ka keep.length kc, .int .i64 torn] 39) = W0 := ⟨_, rfl⟩
  have hbW : Below w.heap.size w W0 := by rw [← hW0]; exact below_alloc _ _
  have hbox : W0.heap[w.heap.size]? = some (.cells #[.int .i64 names, .slice ka keep.length kc, .int .i64 torn] 39 (0, 0)) := by rw [← hW0]; exact World.alloc_heap_new w _
  have hsz0 : W0.heap.size = w.heap.size + 1 := by rw [← hW0]; simp
  have h0 := h.kept (O := fun _ => False) (Chg.of_below hbW) (fun _ _ h => h) (fun h => h)
  have hk0 := hkrow.below hbW
  obtain ⟨vst, vla, vna, vsu, vsp, vwr, e, h0⟩ := h0
  have hRl := h0.rLt
  have b0 := cell_of_heap hbox (i := 0) (v := .int .i64 names) (by rfl)
  have b1 := cell_of_heap hbox (i := 1) (v := .slice ka keep.length kc) (by rfl)
  have b2 := cell_of_heap hbox (i := 2) (v := .int .i64 torn) (by rfl)
  have hob := h0.cells
  obtain ⟨su, suc, rfl, _⟩ := h0.sure.1.at_
  have c4 := cell_of_heap hob (i := 4) (v := .slice su s.sure.length suc) (by rfl)
  obtain ⟨sp, spc, rfl, _, _, hspat⟩ := ownsRow_cell h0.steps.1
  have c5 := cell_of_heap hob (i := 5) (v := .slice sp s.steps.length spc) (by rfl)
  obtain ⟨us, hu0, hu1, hu2, hu3⟩ := h0.writes
  obtain ⟨wa, wc, rfl, _, _, hwat⟩ := ownsRow_cell hu1
  have c6 := cell_of_heap hob (i := 6) (v := .slice wa s.writes.length wc) (by rfl)
  obtain ⟨la, lc, rfl, _, _, hlat⟩ := h0.last
  have c2 := cell_of_heap hob (i := 2) (v := .slice la s.files.length lc) (by rfl)
  have c0 := cell_of_heap hob (i := 0) (v := .int .i64 (s.room : Int)) (by rfl)
  have hsureIn := h0.sure
  have m1 := hk.manySteps
  have m2 := hk.manyWrites
  have m3 := hk.manyFiles
  have m4 := hk.manySure
  have HSP := Lib.hid hspat
  have HWAT := Lib.hid hwat
  have HLAT := Lib.hid hlat
  have HU2 := Lib.hid hu2
  have HK0 := Lib.hid hk0
  have ST := Lib.hid (And.intro h0 (And.intro hbox hbW))
  clear hspat hwat hlat hu2 hk0 h0 hbox h hkrow hu1 hu3 hob
  go_enter Tryz.func11, Tryz.ntmps11
  go_upto_block 0 with (first | rw [hW0])
  go_cut [5, 6] from 19 to 46 (fun s5 s6 wx => Below W0.heap.size W0 wx ∧ NamedIn wx (fun b => R b ∨ NewIn W0 wx b) s5 (stopNames s names))
  case first =>
   go_wp2_with fail
   go_loopw [5, 6] (fun v i wr => ∃ n : Nat, n ≤ s.steps.length ∧ n ≤ names.toNat ∧ i = .int .i64 n ∧ Below W0.heap.size W0 wr ∧ NamedIn wr (fun b => R b ∨ NewIn W0 wr b) v ((s.steps.take n).foldl doStep s.sure)) (fun _ i _ => s.steps.length - (RowKit.intOf i).toNat)
   case atStart => exact ⟨0, by omega, by omega, rfl, Below.refl _ _, hsureIn.widen (fun _ h => .inl h)⟩
   case round =>
     obtain ⟨n, hn, hn2, rfl, hb, hv⟩ := hrel
     have hcb := Chg.of_below (O := fun _ => False) hb
     have k0 := hcb.cell b0 (fun h => h)
     have k5 := hcb.cell c5 (fun h => h)
     have hsz := hb.size
     by_cases hgo : n < s.steps.length ∧ (n : Int) < names
     · obtain ⟨g1, g2⟩ := hgo
       obtain ⟨x, hx⟩ : ∃ x, s.steps[n]? = some x := ⟨s.steps[n]'g1, by simp⟩
       have hstk := steps_take hx
       have hok := steps_take_ok hk n
       obtain ⟨x0, x1, x2, x3, hxe⟩ : ∃ x0 x1 x2 x3, encS x = [x0, x1, x2, x3] := by cases x <;> exact ⟨_, _, _, _, rfl⟩
       have fl := fun j v (hj : j < 4) (h : (encS x)[j]? = some v) => HSP.out _ v (flatK 4 encS s.steps n x hx (fun y _ => encS_len y) j v hj h)
       rw [hxe] at fl
       obtain ⟨gw, rfl, q0⟩ := fl 0 _ (by omega) rfl
       obtain ⟨gw1, ew1, q1⟩ := fl 1 _ (by omega) rfl
       obtain ⟨gw2, ew2, q2⟩ := fl 2 _ (by omega) rfl
       obtain ⟨gw3, ew3, q3⟩ := fl 3 _ (by omega) rfl
       simp only [Option.some.injEq, Addr.mk.injEq, and_true] at ew1 ew2 ew3
       subst ew1; subst ew2; subst ew3
       rw [Nat.add_zero] at q0
       have q0r := hcb.cell q0 (fun h => h)
       have q1r := hcb.cell q1 (fun h => h)
       have q2r := hcb.cell q2 (fun h => h)
       have q3r := hcb.cell q3 (fun h => h)
       have hdo := rdoes_any hv hok.1.rising x (by omega)
       rw [hxe] at hdo
       have j0 : (0 : Int) ≤ (n : Int) := by omega
       have j1 : (n : Int) < (s.steps.length : Int) := by omega
       have HSTK := Lib.hid hstk
       clear fl hx hok hstk q0 q1 q2 q3 hxe
       go_wp2_with (go_at_call 59; refine hdo.mono ?_; rintro _ w2 ⟨v2, rfl, hv2, hb2⟩)
       go_roundw
       case rel => exact ⟨n + 1, by omega, by omega, by go_num, hb.trans (hb2.mono hsz), by
         rw [HSTK.out]
         refine hv2.widen (fun b hb' => ?_)
         have hz2 := hb2.size
         rcases hb' with (hb' | hb') | hb'
         · exact .inl hb'
         · exact .inr ⟨hb'.1, by have := hb'.2; omega⟩
         · exact .inr ⟨by have := hb'.1; omega, hb'.2⟩⟩
       case measure => simp [RowKit.intOf]; omega
     · have hl : (s.steps.take n).foldl doStep s.sure = stopNames s names := by
         unfold stopNames
         by_cases h1 : n < s.steps.length
         · rw [show n = names.toNat from by omega]
         · rw [List.take_of_length_le (by omega), List.take_of_length_le (by omega)]
       rw [hl] at hv
       obtain ⟨va, vc, rfl, _⟩ := hv.1.at_
       have HL := Lib.hid hl
       clear hl
       by_cases hg1 : n < s.steps.length
       · have hg2 : ¬ (n : Int) < names := by omega
         clear hgo
         go_wp2
         go_meet
         case rel => exact ⟨hb, hv⟩
       · clear hgo
         go_wp2
         go_meet
         case rel => exact ⟨hb, hv⟩
  case rest =>
  obtain ⟨hb, hv⟩ := hcut
  have hnk : NamesOk (stopNames s names) s.files.length ∧ (stopNames s names).length ≤ N + N := steps_take_ok hk names.toNat
  obtain ⟨l, hL⟩ : ∃ l, stopNames s names = l := ⟨_, rfl⟩
  rw [hL] at hv hnk
  have HL := Lib.hid hL
  have HNK := Lib.hid hnk
  have hll := hnk.2
  obtain ⟨va, vc, rfl, hvat⟩ := hv.1.at_
  have HVAT := Lib.hid hvat
  have HV := Lib.hid hv
  have hlead := fun f => rleads_any hv.1 f (by omega)
  have hcb := Chg.of_below (O := fun _ => False) hb
  have k1 := hcb.cell b1 (fun h => h)
  have k6 := hcb.cell c6 (fun h => h)
  have hsz := hb.size
  clear hL hv hnk hvat
  go_upto_block 2 with fail
  go_cut [7, 8] from 47 to 91 (fun s7 s8 wx => s7 = .int .i64 (lastI (lastKept s l keep s.writes.length)) ∧ wc = wx)
  case first =>
   go_wp2_with fail
   go_loop [7, 8] (fun v i => ∃ n : Nat, n ≤ s.writes.length ∧ n ≤ keep.length ∧ i = .int .i64 n ∧ v = .int .i64 (lastI (lastKept s l keep n))) (fun _ i => s.writes.length - (RowKit.intOf i).toNat)
   case atStart => exact ⟨0, by omega, by omega, rfl, rfl⟩
   case round =>
     obtain ⟨n, hn, hn2, rfl, rfl⟩ := hrel
     by_cases hgo : n < s.writes.length ∧ n < keep.length
     · obtain ⟨g1, g2⟩ := hgo
       obtain ⟨x, hx⟩ : ∃ x, s.writes[n]? = some x := ⟨s.writes[n]'g1, by simp⟩
       obtain ⟨kb, hkb⟩ : ∃ kb, keep[n]? = some kb := ⟨keep[n]'g2, by simp⟩
       obtain ⟨u, hu'⟩ : ∃ u, us[n]? = some u := ⟨us[n]'(by omega), by simp⟩
       have hnx := lastKept_next (l := l) hx hkb
       have hzp : (s.writes.zip us)[n]? = some (x, u) := by rw [List.getElem?_zip_eq_some]; exact ⟨hx, hu'⟩
       have fl := fun j v (hj : j < 4) (h : (encX (x, u))[j]? = some v) => HWAT.out _ v (flatK 4 encX (s.writes.zip us) n (x, u) hzp (fun y _ => encX_four y) j v hj h)
       obtain ⟨gw, rfl, q0⟩ := fl 0 _ (by omega) rfl
       obtain ⟨gw1, ew1, q1⟩ := fl 1 _ (by omega) rfl
       simp only [Option.some.injEq, Addr.mk.injEq, and_true] at ew1
       subst ew1
       rw [Nat.add_zero] at q0
       have q0r := hcb.cell q0 (fun h => h)
       have q1r := hcb.cell q1 (fun h => h)
       obtain ⟨gk, ok, rfl, hkc⟩ := (HK0.out.below hb).at_ (k := n) (by rw [List.length_map]; exact g2)
       rw [List.getElem_map] at hkc
       rw [show keep[n] = kb from by rw [List.getElem?_eq_getElem g2] at hkb; exact Option.some.inj hkb] at hkc
       have j0 : (0 : Int) ≤ (n : Int) := by omega
       have j1 : (n : Int) < (s.writes.length : Int) := by omega
       have j2 : (n : Int) < (keep.length : Int) := by omega
       have hld := hlead x.file
       clear fl hx hu' hzp q0 q1 hkb
       cases kb with
       | false =>
         simp only [Bool.false_and, Bool.false_eq_true, if_false] at hnx
         have HNX := Lib.hid hnx; clear hnx hld
         go_wp2
         go_round
         case rel => exact ⟨n + 1, by omega, by omega, by go_num, by rw [HNX.out]⟩
         case measure => simp [RowKit.intOf]; omega
       | true =>
         cases hcut : x.cut with
         | true =>
           rw [hcut] at hnx q1r
           simp only [Bool.not_true, Bool.and_false, Bool.false_and, Bool.false_eq_true, if_false] at hnx
           have HNX := Lib.hid hnx; clear hnx hld hcut
           go_wp2
           go_round
           case rel => exact ⟨n + 1, by omega, by omega, by go_num, by rw [HNX.out]⟩
           case measure => simp [RowKit.intOf]; omega
         | false =>
           rw [hcut] at hnx q1r
           cases hlt : leadsTo l x.file with
           | false =>
             rw [hlt] at hnx hld
             simp only [Bool.and_false, Bool.false_eq_true, if_false] at hnx
             have HNX := Lib.hid hnx; clear hnx hcut hlt
             go_wp2_with (go_at_call 60; refine hld.mono ?_; rintro _ w2 ⟨rfl, rfl⟩)
             go_round
             case rel => exact ⟨n + 1, by omega, by omega, by go_num, by rw [HNX.out]⟩
             case measure => simp [RowKit.intOf]; omega
           | true =>
             rw [hlt] at hnx hld
             simp only [Bool.not_false, Bool.and_true, if_true] at hnx
             have HNX := Lib.hid hnx; clear hnx hcut hlt
             go_wp2_with (go_at_call 60; refine hld.mono ?_; rintro _ w2 ⟨rfl, rfl⟩)
             go_round
             case rel => exact ⟨n + 1, by omega, by omega, by go_num, by rw [HNX.out]; rfl⟩
             case measure => simp [RowKit.intOf]; omega
     · have hmin := lastKept_min (l := l) (keep := keep) hn (by omega)
       have HM := Lib.hid hmin
       clear hmin
       by_cases hg1 : n < s.writes.length
       · have hg2 : ¬ n < keep.length := by omega
         have hg3 : ¬ (n : Int) < (keep.length : Int) := by omega
         clear hgo
         go_wp2
         go_meet
         case rel => exact ⟨by rw [HM.out], rfl⟩
       · clear hgo
         go_wp2
         go_meet
         case rel => exact ⟨by rw [HM.out], rfl⟩
  case rest =>
  obtain ⟨h7, hwx⟩ := hcut
  subst h7
  subst hwx
  rename World => w1
  obtain ⟨last, hlast⟩ : ∃ last, lastKept s l keep s.writes.length = last := ⟨_, rfl⟩
  rw [hlast]
  have HLAST := Lib.hid hlast
  clear hlast hlead
  have k2 := hcb.cell b2 (fun h => h)
  have k0 := hcb.cell c0 (fun h => h)
  have k22 := hcb.cell c2 (fun h => h)
  go_wp2_with fail
  go_loopw [9, 10] (fun v i wr => ∃ n : Nat, n ≤ l.length ∧ i = .int .i64 n ∧ Below w1.heap.size w1 wr ∧ FRow wr w1.heap.size (fun b => R b ∨ NewIn w wr b) v ((l.take n).map fun p => (p.1, stopFile s keep last torn p.2 s.writes.length))) (fun _ i _ => l.length - (RowKit.intOf i).toNat)
  case atStart => exact ⟨0, by omega, rfl, Below.refl _ _, FRow.nil _ _ _⟩
  case round =>
    rename World => wy
    obtain ⟨n, hn, rfl, hb3, hF⟩ := hrel
    have hc3 := Chg.of_below (O := fun _ => False) hb3
    have hz3 := hb3.size
    by_cases hlt : n < l.length
    · obtain ⟨p, hp⟩ : ∃ p, l[n]? = some p := ⟨l[n]'hlt, by simp⟩
      have hpf := (HNK.out.1.each p (List.mem_of_getElem? hp)).1
      obtain ⟨g, rfl, q0', q1'⟩ := HVAT.out n p hp
      obtain ⟨g2, xa, xc, rfl, cf', hB, _⟩ := HLAT.out p.2 hpf
      have q0 := hc3.cell q0' (fun h => h)
      have q1 := hc3.cell q1' (fun h => h)
      have cf := hc3.cell (hcb.cell cf' (fun h => h)) (fun h => h)
      have l2 := hc3.cell k22 (fun h => h)
      have l6 := hc3.cell k6 (fun h => h)
      have l1 := hc3.cell k1 (fun h => h)
      have lt2 := hc3.cell k2 (fun h => h)
      have j0 : (0 : Int) ≤ (n : Int) := by omega
      have j1 : (n : Int) < (l.length : Int) := by omega
      have j2 : (0 : Int) ≤ (p.2 : Int) := by omega
      have j3 : (p.2 : Int) < (s.files.length : Int) := by omega
      have hBr := hB.kept (O := fun _ => False) (R' := R) ((Chg.of_below (O := fun _ => False) hb).trans hc3 (fun _ h _ => h)) (fun _ _ h => h) (fun _ h => h)
      have hlenF : ((l.take n).map fun p => (p.1, stopFile s keep last torn p.2 s.writes.length)).length = n := by rw [List.length_map, List.length_take]; omega
      have htk : (l.take (n + 1)).map (fun p => (p.1, stopFile s keep last torn p.2 s.writes.length)) = (l.take n).map (fun p => (p.1, stopFile s keep last torn p.2 s.writes.length)) ++ [(p.1, stopFile s keep last torn p.2 s.writes.length)] := by
        obtain ⟨h1, e1⟩ := List.getElem?_eq_some_iff.1 hp
        rw [List.take_succ_eq_append_getElem h1, e1]; simp
      obtain ⟨fa0, fc0, hv0⟩ := hF.slice
      rw [hlenF] at hv0
      subst hv0
      have HF := Lib.hid hF
      have HTK := Lib.hid htk
      have HBR := Lib.hid hBr
      have HP := Lib.hid hp
      clear hF htk hp q0' q1' cf' hB hBr
      go_wp2
      go_quiet (fail)
      go_upto_block 6 with fail
      go_cut [11, 12, 13, 14] from 92 to 180 (fun s11 s12 s13 s14 wx => Below wy.heap.size wy wx ∧ BytesIn wx (fun b => R b ∨ wy.heap.size ≤ b ∧ b < wx.heap.size) s11 (stopFile s keep last torn p.2 s.writes.length))
      case first =>
       go_wp2_with fail
       go_loopw [11, 12, 13, 14] (fun vb i _ _ wr => ∃ k : Nat, k ≤ s.writes.length ∧ k ≤ keep.length ∧ i = .int .i64 k ∧ Below wy.heap.size wy wr ∧ BytesIn wr (fun b => R b ∨ wy.heap.size ≤ b ∧ b < wr.heap.size) vb (stopFile s keep last torn p.2 k)) (fun _ i _ _ _ => s.writes.length - (RowKit.intOf i).toNat)
       case atStart => exact ⟨0, by omega, by omega, rfl, below_drewN (Below.refl _ _) _, HBR.out.kept (O := fun _ => False) (Chg.of_below (below_drewN (Below.refl _ _) _)) (fun _ _ h => h) (fun b hb => .inl hb)⟩
       case round =>
         obtain ⟨k, hk1, hk2, rfl, hbz, hvb⟩ := hrel
         have hcz := Chg.of_below (O := fun _ => False) hbz
         have hsz4 := hbz.size
         obtain ⟨ba, bc, rfl, hbb1, hbb2, hbrow⟩ := hvb.row
         have z6 := hcz.cell l6 (fun h => h)
         have z1 := hcz.cell l1 (fun h => h)
         have z2 := hcz.cell lt2 (fun h => h)
         have y1 := hcz.cell q1 (fun h => h)
         by_cases hgo : k < s.writes.length ∧ k < keep.length
         · obtain ⟨g1, g3⟩ := hgo
           obtain ⟨x, hx⟩ : ∃ x, s.writes[k]? = some x := ⟨s.writes[k]'g1, by simp⟩
           obtain ⟨kb, hkb⟩ : ∃ kb, keep[k]? = some kb := ⟨keep[k]'g3, by simp⟩
           obtain ⟨u, hu'⟩ : ∃ u, us[k]? = some u := ⟨us[k]'(by omega), by simp⟩
           have hxok := hk.writes x (List.mem_of_getElem? hx)
           have hsf := stopFile_next (last := last) (torn := torn) (f := p.2) hx hkb
           have hsl := stopFile_len hk keep last torn p.2 k
           have hzp : (s.writes.zip us)[k]? = some (x, u) := by rw [List.getElem?_zip_eq_some]; exact ⟨hx, hu'⟩
           have fl := fun j v (hj : j < 4) (h : (encX (x, u))[j]? = some v) => HWAT.out _ v (flatK 4 encX (s.writes.zip us) k (x, u) hzp (fun y _ => encX_four y) j v hj h)
           obtain ⟨gw, rfl, w0c⟩ := fl 0 _ (by omega) rfl
           obtain ⟨gw1, ew1, w1c⟩ := fl 1 _ (by omega) rfl
           obtain ⟨gw2, ew2, w2c⟩ := fl 2 _ (by omega) rfl
           obtain ⟨gw3, ew3, w3c⟩ := fl 3 _ (by omega) rfl
           simp only [Option.some.injEq, Addr.mk.injEq, and_true] at ew1 ew2 ew3
           subst ew1; subst ew2; subst ew3
           rw [Nat.add_zero] at w0c
           have hcall : Chg (fun _ => False) W0 wr := ((Chg.of_below (O := fun _ => False) hb).trans hc3 (fun _ h _ => h)).trans hcz (fun _ h _ => h)
           have w0r := hcall.cell w0c (fun h => h)
           have w1r := hcall.cell w1c (fun h => h)
           have w2r := hcall.cell w2c (fun h => h)
           have w3r := hcall.cell w3c (fun h => h)
           have hUz := (HU2.out k u x hu' hx).kept (O := fun _ => False) (R' := R) hcall (fun _ _ h => h) (fun _ h => h)
           obtain ⟨ub, uc', rfl, _⟩ := hUz.row
           obtain ⟨gk, ok, rfl, hkc⟩ := (((HK0.out.below hb).below hb3).below hbz).at_ (k := k) (by rw [List.length_map]; exact g3)
           rw [List.getElem_map] at hkc
           rw [show keep[k] = kb from by rw [List.getElem?_eq_getElem g3] at hkb; exact Option.some.inj hkb] at hkc
           have i0 : (0 : Int) ≤ (k : Int) := by omega
           have i2 : (k : Int) < (s.writes.length : Int) := by omega
           have i3 : (k : Int) < (keep.length : Int) := by omega
           obtain ⟨W2, hW2⟩ : ∃ W2, wr.alloc (.cells #[.int .i64 (x.file : Int), .bool x.cut, .int .i64 (x.place : Int), .slice ub x.data.length uc'] 124) = W2 := ⟨_, rfl⟩
           have hb2z : Below wr.heap.size wr W2 := by rw [← hW2]; exact below_alloc _ _
           have hbw : W2.heap[wr.heap.size]? = some (.cells #[.int .i64 (x.file : Int), .bool x.cut, .int .i64 (x.place : Int), .slice ub x.data.length uc'] 124 (0, 0)) := by rw [← hW2]; exact World.alloc_heap_new wr _
           have e0 := cell_of_heap hbw (i := 0) (v := .int .i64 (x.file : Int)) (by rfl)
           have e1 := cell_of_heap hbw (i := 1) (v := .bool x.cut) (by rfl)
           have e2 := cell_of_heap hbw (i := 2) (v := .int .i64 (x.place : Int)) (by rfl)
           have e3 := cell_of_heap hbw (i := 3) (v := .slice ub x.data.length uc') (by rfl)
           have hc2z := Chg.of_below (O := fun _ => False) hb2z
           have hkc2 := hc2z.cell hkc (fun h => h)
           have y12 := hc2z.cell y1 (fun h => h)
           have z12 := hc2z.cell z1 (fun h => h)
           have z22 := hc2z.cell z2 (fun h => h)
           have hsz5 := hb2z.size
           have hLd := fun (W : World) (hW : Below W2.heap.size W2 W) (nn : Nat) (hnn : nn ≤ x.data.length) => rLaid_any (n := nn) (hvb.kept (O := fun _ => False) (R' := fun b => R b ∨ wy.heap.size ≤ b ∧ b < wr.heap.size) (hc2z.trans (Chg.of_below (O := fun _ => False) hW) (fun _ h _ => h)) (fun _ _ h => h) (fun _ h => h)) (vx := .agg #[.int .i64 (x.file : Int), .bool x.cut, .int .i64 (x.place : Int), .slice ub x.data.length uc']) ⟨_, rfl, hUz.kept (O := fun _ => False) (hc2z.trans (Chg.of_below (O := fun _ => False) hW) (fun _ h _ => h)) (fun _ _ h => h) (fun _ h => .inl h)⟩ hnn hsl hxok.2.1
           have HSF := Lib.hid hsf
           have HVB := Lib.hid hvb
           have hki : ((k : Int) == lastI last) = decide (last = some k) := by
             cases last with
             | none => simp [lastI]
             | some m => simp [lastI]; rw [Bool.eq_iff_iff]; simp; omega
           clear fl hx hu' hzp hkb w0c w1c w2c w3c hsf hvb hUz hbrow hcall hxok hbw
           cases kb with
           | false =>
             have HGB := Lib.hid (show (false && x.file == p.2) = false from rfl)
             clear hLd hki
             go_wp2
             go_quiet (fail)
             go_wp2
             go_roundw
             case rel => exact ⟨k + 1, by omega, by omega, by go_num, below_drewN (hbz.trans (hb2z.mono hsz4)) _, by
               rw [HSF.out, if_neg (by rw [HGB.out]; simp)]
               exact HVB.out.kept (O := fun _ => False) (hc2z.trans (Chg.of_below (O := fun _ => False) (below_drewN (Below.refl _ W2) nq)) (fun _ h _ => h)) (fun _ _ h => h) (fun b hb => hb.imp id (fun h => ⟨h.1, by have := h.2; show b < W2.heap.size; omega⟩))⟩
             case measure => simp [RowKit.intOf]; omega
           | true =>
             by_cases hfe : x.file = p.2
             · have HGB := Lib.hid (show (true && x.file == p.2) = true by simpa using hfe)
               have f1 : ((x.file : Int) == (p.2 : Int)) = true := beq_iff_eq.2 (by omega)
               have f2 : ((x.file : Int) != (p.2 : Int)) = false := bne_eq_false_iff_eq.2 (by omega)
               clear hfe
               by_cases hla : last = some k
               · rw [decide_eq_true hla] at hki
                 have HLA := Lib.hid hla
                 clear hla
                 by_cases hto : 0 ≤ torn
                 · by_cases htl : torn < (x.data.length : Int)
                   · obtain ⟨tn, rfl⟩ : ∃ tn : Nat, torn = (tn : Int) := ⟨torn.toNat, by omega⟩
                     go_wp2
                     go_quiet (fail)
                     have HLO := Lib.hid (show laidOf last (tn : Int) k x = tn from by unfold laidOf; rw [if_pos ⟨HLA.out, hto, htl⟩]; rfl)
                     have hcc := hLd _ (below_drewN (Below.refl _ W2) nq) (tn) (by omega)
                     clear hLd
                     go_wp2_with (go_at_call 61; refine hcc.mono ?_; rintro _ w5 ⟨v5, rfl, hv5, hb5⟩)
                     have hb5' : Below W2.heap.size W2 w5 := (below_drewN (Below.refl _ W2) nq).trans hb5
                     have hz5 := hb5'.size
                     go_roundw
                     case rel => exact ⟨k + 1, by omega, by omega, by go_num, (hbz.trans (hb2z.mono hsz4)).trans (hb5'.mono (by omega)), by
                       rw [HSF.out, if_pos HGB.out, HLO.out]
                       refine BytesIn.mono hv5 (fun b hb' => ?_)
                       rcases hb' with (hb' | hb') | hb'
                       · exact .inl hb'
                       · exact .inr ⟨hb'.1, by have := hb'.2; omega⟩
                       · have h1 : W2.heap.size ≤ b := hb'.1
                         exact .inr ⟨by omega, hb'.2⟩⟩
                     case measure => simp [RowKit.intOf]; omega
                   · skip
                     go_wp2
                     go_quiet (fail)
                     have HLO := Lib.hid (show laidOf last torn k x = x.data.length from by unfold laidOf; rw [if_neg (fun h => absurd h.2.2 (by omega))])
                     have hcc := hLd _ (below_drewN (Below.refl _ W2) nq) (x.data.length) (by omega)
                     clear hLd
                     go_wp2_with (go_at_call 61; refine hcc.mono ?_; rintro _ w5 ⟨v5, rfl, hv5, hb5⟩)
                     have hb5' : Below W2.heap.size W2 w5 := (below_drewN (Below.refl _ W2) nq).trans hb5
                     have hz5 := hb5'.size
                     go_roundw
                     case rel => exact ⟨k + 1, by omega, by omega, by go_num, (hbz.trans (hb2z.mono hsz4)).trans (hb5'.mono (by omega)), by
                       rw [HSF.out, if_pos HGB.out, HLO.out]
                       refine BytesIn.mono hv5 (fun b hb' => ?_)
                       rcases hb' with (hb' | hb') | hb'
                       · exact .inl hb'
                       · exact .inr ⟨hb'.1, by have := hb'.2; omega⟩
                       · have h1 : W2.heap.size ≤ b := hb'.1
                         exact .inr ⟨by omega, hb'.2⟩⟩
                     case measure => simp [RowKit.intOf]; omega
                 · skip
                   go_wp2
                   go_quiet (fail)
                   have HLO := Lib.hid (show laidOf last torn k x = x.data.length from by unfold laidOf; rw [if_neg (fun h => absurd h.2.1 (by omega))])
                   have hcc := hLd _ (below_drewN (Below.refl _ W2) nq) (x.data.length) (by omega)
                   clear hLd
                   go_wp2_with (go_at_call 61; refine hcc.mono ?_; rintro _ w5 ⟨v5, rfl, hv5, hb5⟩)
                   have hb5' : Below W2.heap.size W2 w5 := (below_drewN (Below.refl _ W2) nq).trans hb5
                   have hz5 := hb5'.size
                   go_roundw
                   case rel => exact ⟨k + 1, by omega, by omega, by go_num, (hbz.trans (hb2z.mono hsz4)).trans (hb5'.mono (by omega)), by
                     rw [HSF.out, if_pos HGB.out, HLO.out]
                     refine BytesIn.mono hv5 (fun b hb' => ?_)
                     rcases hb' with (hb' | hb') | hb'
                     · exact .inl hb'
                     · exact .inr ⟨hb'.1, by have := hb'.2; omega⟩
                     · have h1 : W2.heap.size ≤ b := hb'.1
                       exact .inr ⟨by omega, hb'.2⟩⟩
                   case measure => simp [RowKit.intOf]; omega
               · rw [decide_eq_false hla] at hki
                 go_wp2
                 go_quiet (fail)
                 have HLO := Lib.hid (show laidOf last torn k x = x.data.length from by unfold laidOf; rw [if_neg (fun h => absurd h.1 hla)])
                 have hcc := hLd _ (below_drewN (Below.refl _ W2) nq) (x.data.length) (by omega)
                 clear hLd
                 go_wp2_with (go_at_call 61; refine hcc.mono ?_; rintro _ w5 ⟨v5, rfl, hv5, hb5⟩)
                 have hb5' : Below W2.heap.size W2 w5 := (below_drewN (Below.refl _ W2) nq).trans hb5
                 have hz5 := hb5'.size
                 go_roundw
                 case rel => exact ⟨k + 1, by omega, by omega, by go_num, (hbz.trans (hb2z.mono hsz4)).trans (hb5'.mono (by omega)), by
                   rw [HSF.out, if_pos HGB.out, HLO.out]
                   refine BytesIn.mono hv5 (fun b hb' => ?_)
                   rcases hb' with (hb' | hb') | hb'
                   · exact .inl hb'
                   · exact .inr ⟨hb'.1, by have := hb'.2; omega⟩
                   · have h1 : W2.heap.size ≤ b := hb'.1
                     exact .inr ⟨by omega, hb'.2⟩⟩
                 case measure => simp [RowKit.intOf]; omega
             · have HGB := Lib.hid (show (true && x.file == p.2) = false by simpa using hfe)
               have f1 : ((x.file : Int) == (p.2 : Int)) = false := beq_eq_false_iff_ne.2 (by omega)
               have f2 : ((x.file : Int) != (p.2 : Int)) = true := bne_iff_ne.2 (by omega)
               clear hfe hLd hki
               go_wp2
               go_quiet (fail)
               go_wp2
               go_roundw
               case rel => exact ⟨k + 1, by omega, by omega, by go_num, below_drewN (hbz.trans (hb2z.mono hsz4)) _, by
                 rw [HSF.out, if_neg (by rw [HGB.out]; simp)]
                 exact HVB.out.kept (O := fun _ => False) (hc2z.trans (Chg.of_below (O := fun _ => False) (below_drewN (Below.refl _ W2) nq)) (fun _ h _ => h)) (fun _ _ h => h) (fun b hb => hb.imp id (fun h => ⟨h.1, by have := h.2; show b < W2.heap.size; omega⟩))⟩
               case measure => simp [RowKit.intOf]; omega
         · have HM := Lib.hid (stopFile_min (last := last) (torn := torn) (f := p.2) (keep := keep) hk1 (by omega))
           by_cases hg1 : k < s.writes.length
           · have hg2 : ¬ k < keep.length := by omega
             have hg3 : ¬ (k : Int) < (keep.length : Int) := by omega
             clear hgo
             go_wp2
             go_meet
             case rel => exact ⟨hbz, by rw [← HM.out]; exact hvb⟩
           · clear hgo
             go_wp2
             go_meet
             case rel => exact ⟨hbz, by rw [← HM.out]; exact hvb⟩
      case rest =>
      obtain ⟨hb4, hvb⟩ := hcut
      obtain ⟨ba, bc, rfl, hbb1, hbb2, _⟩ := hvb.row
      have hc4 := Chg.of_below (O := fun _ => False) hb4
      have hsz4 := hb4.size
      have y0 := hc4.cell q0 (fun h => h)
      obtain ⟨us9, hus0, hus1, hus2⟩ := HF.out
      rw [hlenF] at hus0 hus1
      have hvl := fun b (h : (Value.slice fa0 n fc0).ownBlock = some b) => hus1.lt b h
      have HUS2 := Lib.hid hus2
      have HVB := Lib.hid hvb
      clear hus2 hvb
      go_wp2_with (at_builtin; refine wpList_append_own_at _ rfl (.tmp 171) (.tmp 179) 22 rfl w1.heap.size 56 i1 _ 2 40 Tryz.underlying22 hi1 hw0 hw1 hw2 rfl (by decide) (.slice fa0 n fc0) n _ rfl (World.ownsRow.alloc (hc4.row hus1 (fun _ _ h => h)) _) ⟨wc.heap.size, 0, none⟩ 1 1 [sv p.1, .slice ba (stopFile s keep last torn p.2 s.writes.length).length bc] rfl rfl (fun j u hu => by rw [addr_add]; exact cell_new wc _ _ j u (by simpa [sv] using hu)) (by simp [sv, Value.oneCell']) (by omega) (by omega) (by rw [World.size_alloc]; omega) ?_; intro v5 w5 hv5 hg5 _ hat5; rw [World.size_alloc] at hat5)
      have hb45 : Below w1.heap.size w1 w5 := (((hb3.trans (hb4.mono hz3))).alloc (by omega) _).grown hg5 (by rw [World.size_alloc]; omega) (fun b e => (hvl b e).1)
      have hc45 : Chg (fun b => (Value.slice fa0 n fc0).ownBlock = some b) wc w5 := (Chg.alloc (fun b => (Value.slice fa0 n fc0).ownBlock = some b) wc _).trans (Chg.of_grown hg5 (fun k e _ => e)) (fun _ h _ => h)
      have hcy5 : Chg (fun b => (Value.slice fa0 n fc0).ownBlock = some b) wy w5 := (hc4.mono (fun _ h _ => h.elim)).trans hc45 (fun _ h _ => h)
      have hz5 := hc45.size
      have hu5 : BytesIn w5 (fun b => (R b ∨ NewIn w w5 b) ∧ v5.ownBlock ≠ some b) (.slice ba (stopFile s keep last torn p.2 s.writes.length).length bc) (stopFile s keep last torn p.2 s.writes.length) := by
        refine HVB.out.kept hc45 (fun b hb e => ?_) (fun b hb => ⟨?_, fun e2 => ?_⟩)
        · have h1 := hvl b e
          rcases hb with hb | hb
          · have := hRl b hb; omega
          · omega
        · rcases hb with hb | hb
          · exact .inl hb
          · exact .inr ⟨by omega, by omega⟩
        · rcases hat5 with e | e
          · rw [e] at e2
            have h1 := hvl b e2
            rcases hb with hb | hb
            · have := hRl b hb; omega
            · omega
          · rw [e] at e2
            cases e2
            rcases hb with hb | hb
            · have := hRl _ hb; omega
            · omega
      go_roundw
      case rel => exact ⟨n + 1, by omega, by go_num, hb45, by
        rw [HTK.out]
        exact FRow.push (w := wy) (by rw [hlenF]; exact hus0) HUS2.out hcy5 (by rw [hlenF]; exact hv5) hat5 (fun b hb => by
          rcases hb with hb | hb
          · have := hRl b hb; omega
          · have := hb.2; omega) hu5 (fun b hb => hb.imp id (fun h => ⟨h.1, by have := h.2; omega⟩))⟩
      case measure => simp [RowKit.intOf]; omega
    · obtain rfl : n = l.length := by omega
      rw [List.take_length] at hF
      obtain ⟨fa, fc, hv0, _, hA⟩ := hF.arg
      rw [List.length_map] at hv0
      subst hv0
      have hgood := stop_filesOk hk names keep torn
      rw [HL.out, HLAST.out] at hgood
      have hOf := rOf_any (cap := s.room) hk.room (c := fc) hA (by rw [List.length_map]; omega) (fun p hp => Nat.le_trans (hgood.2.2 p hp) (by omega)) (fun p hp => by have := (hgood.2.1 p hp).2.1; omega)
      rw [List.length_map] at hOf
      have HG := Lib.hid (show NamesGood _ from ⟨hgood.1, hgood.2.1⟩)
      have hj1 : ¬ (l.length : Int) < (l.length : Int) := by omega
      have r0 := hc3.cell k0 (fun h => h)
      clear hgood hA hF
      have hOf2 := hOf.mono (fun e w' (h : _ ∧ _) => (show (∃ po, e = .returned (.tuple #[.pointer (some ⟨po, 0, none⟩), .int .i64 0]) ∧ wy.heap.size ≤ po ∧ ∃ R', RAt w' po (DSt.ofFiles s.room (l.map fun p => (p.1, stopFile s keep last torn p.2 s.writes.length))) R' ∧ ∀ b, R' b → wy.heap.size ≤ b) ∧ Below wy.heap.size wy w' from ⟨by
        rcases h.1 with ⟨_, h⟩ | ⟨hbad, _⟩
        · exact h
        · exact absurd HG.out hbad, h.2⟩))
      clear hOf
      go_wp2_with (go_at_call 7; refine hOf2.mono ?_; rintro _ w6 ⟨⟨po, rfl, hpo, R', hR1, hR2⟩, hb6⟩)
      go_ret
      have hst : s.stop names keep torn = DSt.ofFiles s.room (l.map fun p => (p.1, stopFile s keep last torn p.2 s.writes.length)) := by
        unfold DSt.stop
        simp only [HL.out, HLAST.out]
      have hball : Below w.heap.size w w6 := hbW.trans ((hb.trans ((hb3.trans (hb6.mono hz3)).mono (by omega))).mono (by omega))
      exact ⟨po, rfl, by omega, ⟨R', by rw [hst]; exact hR1, fun b hb => by have := hR2 b hb; omega⟩, hball⟩
end

end Go.Proofs.YtgckcnnnblggbaaGreat
