/- Texts of this claim, one behind the other: DkN, DkO, DkQ, DkS. -/
import Derived.Test.YtlmdpcaikhdenaaGreatSe14
import Derived.Test.YtlmdpcaikhdenaaGreatSe01
import Derived.Lib.QuietBelow
import Derived.RangeFuncNested
import Derived.RangeFuncBound
import Derived.RangeFuncCalls
import Derived.RangeFuncLeaves
import Derived.RangeFuncFrom
import Derived.Shelf.Abstract
import Derived.Shelf.RegionOpen
import Derived.OwnWalkIn
import Derived.TacticsInMore
import Derived.LoopNIn
import Derived.LoopIn
import Derived.Maps.OwnIn
import Derived.Stop.RegionWithIn
set_option linter.unusedSimpArgs false
set_option linter.unusedVariables false
/- Disk: look, Read, Size, and what a disk tells of itself by a number. -/
namespace Go.Proofs.YtlmdpcaikhdenaaGreat
open Go.RowKit Go.Maps Go.Shelf

set_option maxHeartbeats 1000000 in
theorem look_none {w : World} {p : Nat} {s : DSt} {R : Nat → Prop} {mf mn ms : Nat} {fb : List Nat} {vs vw : Value} {ss : List Value} {ws : List (List Value)} {e : TypeId} (h : DiskP w p s R mf mn ms fb vs vw ss ws e)
    {k : List UInt8} (hk : k.length ≤ maxLen) (hf : nlFind s.names k = none) (f : Value) :
    Calls Tryz.prog 233 #[.pointer (some ⟨p, 0, none⟩), .string ⟨k.toArray⟩, f] w fun e w' => e = .returned (.int .i64 7) ∧ w = w' := by
  have hth := there_any h.cells (mn := mn) (by rfl)
  have c2 := cell_of_heap h.cells (i := 2) (v := .map (some mn)) (by rfl)
  have hl := look_name h.namesM hk
  rw [hf] at hl
  simp only [Option.getD_none, Option.isSome_none] at hl
  clear hf
  go_enter Tryz.func233, Tryz.ntmps233
  go_wp2_with (go_at_call 49; refine hth.mono ?_; rintro e w1 ⟨rfl, rfl⟩)
  go_ret
  exact ⟨rfl, rfl⟩

set_option maxHeartbeats 1000000 in
theorem look_some {w : World} {p : Nat} {s : DSt} {R : Nat → Prop} {mf mn ms : Nat} {fb : List Nat} {vs vw : Value} {ss : List Value} {ws : List (List Value)} {e : TypeId} (h : DiskP w p s R mf mn ms fb vs vw ss ws e)
    {k : List UInt8} (hk : k.length ≤ maxLen) {n b : Nat} (hf : nlFind s.names k = some n) (hb : fb[n]? = some b) (h63 : n < 9223372036854775808) (N : FuncId) (caps : Array Value) (henter : ∀ args w, (callFunc N args).run Tryz.prog w = .ok (.enter N args) w)
    (Q : Int → World → Prop) (hcall : Calls Tryz.prog N (#[.pointer (some ⟨b, 0, none⟩)] ++ caps) w fun e w' => ∃ v, e = .returned (.int .i64 v) ∧ Q v w') :
    Calls Tryz.prog 233 #[.pointer (some ⟨p, 0, none⟩), .string ⟨k.toArray⟩, .func (.func N) #[] caps] w fun e w' => ∃ v, e = .returned (.int .i64 v) ∧ Q v w' := by
  have hth := there_any h.cells (mn := mn) (by rfl)
  have c2 := cell_of_heap h.cells (i := 2) (v := .map (some mn)) (by rfl)
  have c1 := cell_of_heap h.cells (i := 1) (v := .map (some mf)) (by rfl)
  have hl := look_name h.namesM hk
  rw [hf] at hl
  simp only [Option.getD_some, Option.isSome_some] at hl
  obtain ⟨hlt, hbe⟩ := List.getElem?_eq_some_iff.1 hb
  have hlf := look_file h.filesM hlt h63
  rw [hbe] at hlf
  clear hf hbe hb
  go_enter Tryz.func233, Tryz.ntmps233
  go_wp2_with (first | (go_at_call 49; refine hth.mono ?_; rintro e w1 ⟨rfl, rfl⟩) | (refine hcall.mono ?_; rintro e w1 ⟨v, rfl, hq⟩))
  go_ret
  exact ⟨_, rfl, hq⟩

/-- Read, once the file is found -/
def readAt (l : List UInt8) (at_ n : Int) : List UInt8 × Nat := if at_ < 0 ∨ n < 0 then ([], 2) else if (l.length : Int) < at_ then ([], 4) else ((l.drop at_.toNat).take n.toNat, 0)
theorem read_some {s : DSt} {k : List UInt8} {f : Nat} (hf : nlFind s.names k = some f) (at_ n : Int) : s.read k at_ n = readAt (s.stands f) at_ n := by unfold DSt.read; rw [hf]; rfl
theorem enters_read1 : enters 234 := fun args w => by go_simp
theorem enters_size1 : enters 237 := fun args w => by go_simp

set_option maxRecDepth 100000 in
set_option maxHeartbeats 4000000 in
theorem read1_any {w : World} {R : Nat → Prop} {b : Nat} {vd vs' : Value} {e' : TypeId} {l : List UInt8} (hfh : w.heap[b]? = some (.cells #[vd, vs'] e' (0, 0))) (hbd : BytesIn w R vd l) (hl : l.length ≤ maxFile)
    {ba bn bo : Nat} {at_ n : Int} (ca : w.cell? ⟨ba, 0, none⟩ = some (.int .i64 at_)) (cn : w.cell? ⟨bn, 0, none⟩ = some (.int .i64 n)) (co : w.cell? ⟨bo, 0, none⟩ = some (.slice none 0 0)) (zo : w.frozen? ⟨bo, 0, none⟩ = false) (h64 : -9223372036854775808 ≤ at_ ∧ at_ < 9223372036854775808) :
    Calls Tryz.prog 234 #[.pointer (some ⟨b, 0, none⟩), .pointer (some ⟨ba, 0, none⟩), .pointer (some ⟨bn, 0, none⟩), .pointer (some ⟨bo, 0, none⟩)] w fun e w' =>
      ∃ v, e = .returned (.int .i64 v) ∧ v = ((readAt l at_ n).2 : Int) ∧ Chg (· = bo) w w' ∧ ∃ U, w'.cell? ⟨bo, 0, none⟩ = some U ∧ BytesIn w' (NewIn w w') U (readAt l at_ n).1 := by
  have hmf : maxFile = 1099511627776 := rfl
  obtain ⟨da, dc, rfl, hdl, hdn, hdr⟩ := hbd.row
  have f0 := cell_of_heap hfh (i := 0) (v := .slice da l.length dc) (by rfl)
  by_cases e1 : at_ < 0
  · have he : readAt l at_ n = ([], 2) := by unfold readAt; rw [if_pos (.inl e1)]
    rw [he]
    clear he
    have g1 : decide (at_ < 0) = true := by simpa using e1
    go_enter Tryz.func234, Tryz.ntmps234
    go_wp2
    go_ret
    exact ⟨_, rfl, rfl, Chg.refl _ _, _, co, BytesIn.nil _ _⟩
  have g1 : decide (at_ < 0) = false := by simpa using e1
  by_cases e2 : n < 0
  · have he : readAt l at_ n = ([], 2) := by unfold readAt; rw [if_pos (.inr e2)]
    rw [he]
    clear he
    have g2 : decide (n < 0) = true := by simpa using e2
    go_enter Tryz.func234, Tryz.ntmps234
    go_wp2
    go_ret
    exact ⟨_, rfl, rfl, Chg.refl _ _, _, co, BytesIn.nil _ _⟩
  have g2 : decide (n < 0) = false := by simpa using e2
  by_cases e3 : (l.length : Int) < at_
  · have he : readAt l at_ n = ([], 4) := by unfold readAt; rw [if_neg (by rintro (h | h); exact e1 h; exact e2 h), if_pos e3]
    rw [he]
    clear he
    have g3 : decide ((l.length : Int) < at_) = true := by simpa using e3
    generalize l.length = ll at *
    go_enter Tryz.func234, Tryz.ntmps234
    go_wp2
    go_quiet (fail)
    have hcn := (Chg.refl (· = bo) w).drewN nq
    have co' : (w.drewN nq).cell? ⟨bo, 0, none⟩ = some (.slice none 0 0) := co
    go_wp2
    go_ret
    exact ⟨_, rfl, rfl, hcn, _, co', BytesIn.nil _ _⟩
  have g3 : decide ((l.length : Int) < at_) = false := by simpa using e3
  obtain ⟨q, rfl⟩ : ∃ q : Nat, at_ = (q : Int) := ⟨at_.toNat, by omega⟩
  obtain ⟨m, rfl⟩ : ∃ m : Nat, n = (m : Int) := ⟨n.toNat, by omega⟩
  have he : readAt l q m = ((l.drop q).take m, 0) := by unfold readAt; rw [if_neg (by rintro (h | h); exact e1 h; exact e2 h), if_neg e3]; simp
  rw [he]
  clear he
  have hql : q ≤ l.length := by omega
  have hsl1 := run_slice_lo (P := Tryz.prog) 26 5 Tryz.underlying26 Tryz.sizeOf5 da l.length dc q hql
  have hrow2 : RowAt w (subAt da dc q) ((l.drop q).map bv) := by rw [List.map_drop]; exact hdr.drop dc q (by simpa using hdl)
  have hnil2 : subAt da dc q = none → dc - q = 0 := fun e => by have := hdn (subAt_none.1 e); omega
  have hdln : (l.drop q).length = l.length - q := by simp
  generalize hSA : subAt da dc q = sa at *
  by_cases e4 : m ≤ l.length - q
  · have htk : ((l.drop q).take m).length = m := by simp; omega
    have hsl2 := run_slice_hi (P := Tryz.prog) 26 5 Tryz.underlying26 Tryz.sizeOf5 sa (l.length - q) (dc - q) m (by omega)
    have hC := clone_any sa (dc - q) ((l.drop q).take m)
    rw [htk] at hC
    have hrow3 : RowAt w sa (((l.drop q).take m).map bv) := by rw [List.map_take]; exact hrow2.take m
    have HC := Lib.hid hC; clear hC
    have hm1 : (m : Int) ≤ ((l.length - q : Nat) : Int) := by omega
    have hcast : ((l.length - q : Nat) : Int) = (l.length : Int) - (q : Int) := by omega
    go_enter Tryz.func234, Tryz.ntmps234
    go_wp2
    go_quiet (fail)
    have hb3 : Below w.heap.size w (w.drewN nq) := below_drewN (Below.refl _ _) nq
    have cn3 := (hb3.cell (p := ⟨bn, 0, none⟩) (cell_lt cn)).trans cn
    have ca3 := (hb3.cell (p := ⟨ba, 0, none⟩) (cell_lt ca)).trans ca
    have f03 := (hb3.cell (p := ⟨b, 0, none⟩) (cell_lt f0)).trans f0
    generalize w.drewN nq = w3 at *
    go_wp2
    go_quiet (fail)
    have hb4 : Below w.heap.size w (w3.drewN nq) := below_drewN hb3 nq
    clear cn3 ca3 f03
    generalize w3.drewN nq = w4 at *
    have cn4 := (hb4.cell (p := ⟨bn, 0, none⟩) (cell_lt cn)).trans cn
    have co4 := (hb4.cell (p := ⟨bo, 0, none⟩) (cell_lt co)).trans co
    have zo4 := (hb4.frozen (p := ⟨bo, 0, none⟩) (cell_lt co)).trans zo
    have hr4 := hrow3.below hb4
    clear ca cn f0 hsl1
    go_wp2_with fail
    rw [show (min (m : Int) ((l.length : Int) - (q : Int))).toNat = m by omega]
    refine (HC.out w4 hnil2 hr4 (by omega)).mono ?_
    rintro _ w5 ⟨U, rfl, hU5, hb5⟩
    obtain ⟨ua, uc, rfl, _⟩ := hU5.row
    have co5 := (hb5.cell (p := ⟨bo, 0, none⟩) (cell_lt co4)).trans co4
    have zo5 := (hb5.frozen (p := ⟨bo, 0, none⟩) (cell_lt co4)).trans zo4
    have hlt4 : bo < w4.heap.size := cell_lt co4
    obtain ⟨L, hL⟩ : ∃ L, L = (l.drop q).take m := ⟨_, rfl⟩
    rw [← hL] at hU5 ⊢
    have HL := Lib.hid hL
    clear hL HC
    have hc5 : Chg (· = bo) w5 (w5.setCell ⟨bo, 0, none⟩ (.slice ua L.length uc)) := Chg.set _ rfl
    have hs4 := hb4.size
    have hsz : (w5.setCell ⟨bo, 0, none⟩ (.slice ua L.length uc)).heap.size = w5.heap.size := by simp [World.setCell]
    have hUf := hU5.kept hc5 (R' := NewIn w (w5.setCell ⟨bo, 0, none⟩ (.slice ua L.length uc))) (fun y hy => by have := hy.1; show ¬ y = bo; omega) (fun y hy => ⟨by have := hy.1; omega, by have := hy.2; omega⟩)
    have cof : (w5.setCell ⟨bo, 0, none⟩ (.slice ua L.length uc)).cell? ⟨bo, 0, none⟩ = some (.slice ua L.length uc) := by go_simp
    have hcf : Chg (· = bo) w (w5.setCell ⟨bo, 0, none⟩ (.slice ua L.length uc)) := ((Chg.of_below hb4).trans (Chg.of_below (O := (· = bo)) hb5) (fun _ h _ => h)).trans hc5 (fun _ h _ => h)
    clear hb4 hb5 hU5 hc5 hr4 hsz
    go_wp2
    go_ret
    exact ⟨_, rfl, rfl, hcf, _, cof, by rw [← HL.out]; exact hUf⟩
  · have htk : (l.drop q).take m = l.drop q := List.take_of_length_le (by omega)
    rw [htk]
    have hsl2 := run_slice_hi (P := Tryz.prog) 26 5 Tryz.underlying26 Tryz.sizeOf5 sa (l.length - q) (dc - q) (l.length - q) (by omega)
    have hC := clone_any sa (dc - q) (l.drop q)
    rw [hdln] at hC
    have hrow3 := hrow2
    have HC := Lib.hid hC; clear hC
    have hcast : ((l.length - q : Nat) : Int) = (l.length : Int) - (q : Int) := by omega
    go_enter Tryz.func234, Tryz.ntmps234
    go_wp2
    go_quiet (fail)
    have hb3 : Below w.heap.size w (w.drewN nq) := below_drewN (Below.refl _ _) nq
    have cn3 := (hb3.cell (p := ⟨bn, 0, none⟩) (cell_lt cn)).trans cn
    have ca3 := (hb3.cell (p := ⟨ba, 0, none⟩) (cell_lt ca)).trans ca
    have f03 := (hb3.cell (p := ⟨b, 0, none⟩) (cell_lt f0)).trans f0
    generalize w.drewN nq = w3 at *
    go_wp2
    go_quiet (fail)
    have hb4 : Below w.heap.size w (w3.drewN nq) := below_drewN hb3 nq
    clear cn3 ca3 f03
    generalize w3.drewN nq = w4 at *
    have cn4 := (hb4.cell (p := ⟨bn, 0, none⟩) (cell_lt cn)).trans cn
    have co4 := (hb4.cell (p := ⟨bo, 0, none⟩) (cell_lt co)).trans co
    have zo4 := (hb4.frozen (p := ⟨bo, 0, none⟩) (cell_lt co)).trans zo
    have hr4 := hrow3.below hb4
    clear ca cn f0 hsl1
    go_wp2_with fail
    rw [show (min (m : Int) ((l.length : Int) - (q : Int))).toNat = l.length - q by omega]
    refine (HC.out w4 hnil2 hr4 (by omega)).mono ?_
    rintro _ w5 ⟨U, rfl, hU5, hb5⟩
    obtain ⟨ua, uc, rfl, _⟩ := hU5.row
    have co5 := (hb5.cell (p := ⟨bo, 0, none⟩) (cell_lt co4)).trans co4
    have zo5 := (hb5.frozen (p := ⟨bo, 0, none⟩) (cell_lt co4)).trans zo4
    have hlt4 : bo < w4.heap.size := cell_lt co4
    obtain ⟨L, hL⟩ : ∃ L, L = l.drop q := ⟨_, rfl⟩
    rw [← hL] at hU5 ⊢
    have HL := Lib.hid hL
    clear hL HC
    have hc5 : Chg (· = bo) w5 (w5.setCell ⟨bo, 0, none⟩ (.slice ua L.length uc)) := Chg.set _ rfl
    have hs4 := hb4.size
    have hsz : (w5.setCell ⟨bo, 0, none⟩ (.slice ua L.length uc)).heap.size = w5.heap.size := by simp [World.setCell]
    have hUf := hU5.kept hc5 (R' := NewIn w (w5.setCell ⟨bo, 0, none⟩ (.slice ua L.length uc))) (fun y hy => by have := hy.1; show ¬ y = bo; omega) (fun y hy => ⟨by have := hy.1; omega, by have := hy.2; omega⟩)
    have cof : (w5.setCell ⟨bo, 0, none⟩ (.slice ua L.length uc)).cell? ⟨bo, 0, none⟩ = some (.slice ua L.length uc) := by go_simp
    have hcf : Chg (· = bo) w (w5.setCell ⟨bo, 0, none⟩ (.slice ua L.length uc)) := ((Chg.of_below hb4).trans (Chg.of_below (O := (· = bo)) hb5) (fun _ h _ => h)).trans hc5 (fun _ h _ => h)
    clear hb4 hb5 hU5 hc5 hr4 hsz
    go_wp2
    go_ret
    exact ⟨_, rfl, rfl, hcf, _, cof, by rw [← HL.out]; exact hUf⟩

set_option maxRecDepth 100000 in
set_option maxHeartbeats 4000000 in
theorem Read_any {w : World} {p : Nat} {s : DSt} {R : Nat → Prop} {mf mn ms : Nat} {fb : List Nat} {vs vw : Value} {ss : List Value} {ws : List (List Value)} {e : TypeId} (h : DiskP w p s R mf mn ms fb vs vw ss ws e)
    {k : List UInt8} (hk : k.length ≤ maxLen) {N : Nat} (hok : s.Ok N) (hN : N < maxList) {at_ n : Int} (h64 : -9223372036854775808 ≤ at_ ∧ at_ < 9223372036854775808) :
    Calls Tryz.prog 222 #[.pointer (some ⟨p, 0, none⟩), .string ⟨k.toArray⟩, .int .i64 at_, .int .i64 n] w fun e w' => ∃ U, e = .returned (.tuple #[U, .int .i64 ((s.read k at_ n).2 : Int)]) ∧ BytesIn w' (NewIn w w') U (s.read k at_ n).1 ∧ Below w.heap.size w w' := by
  obtain ⟨w3, hw3⟩ : ∃ w3, ((w.alloc (.cells #[.int .i64 at_] 2)).alloc (.cells #[.int .i64 n] 3)).alloc (.cells #[.slice none 0 0] 26) = w3 := ⟨_, rfl⟩
  have hb3 : Below w.heap.size w w3 := by rw [← hw3]; exact ((below_alloc w _).alloc (by simp) _).alloc (by simp; omega) _
  have hz3 : w3.heap.size = w.heap.size + 1 + 1 + 1 := by rw [← hw3]; simp
  have hca : Boxed w3 w.heap.size 2 (.int .i64 at_) := by rw [← hw3]; exact ((Boxed.new _ _ _).alloc _).alloc _
  have hcn : Boxed w3 (w.heap.size + 1) 3 (.int .i64 n) := by rw [← hw3]; have := (Boxed.new (w.alloc (.cells #[.int .i64 at_] 2)) 3 (.int .i64 n)).alloc (.cells #[.slice none 0 0] 26); rwa [World.size_alloc] at this
  have hco : Boxed w3 (w.heap.size + 1 + 1) 26 (.slice none 0 0) := by rw [← hw3]; have := Boxed.new ((w.alloc (.cells #[.int .i64 at_] 2)).alloc (.cells #[.int .i64 n] 3)) 26 (.slice none 0 0); rwa [World.size_alloc, World.size_alloc] at this
  have h3 := h.below hb3
  have hmx : maxList = 4194304 := rfl
  cases hf : nlFind s.names k with
  | none =>
    have he : s.read k at_ n = ([], 7) := by unfold DSt.read; rw [hf]
    rw [he]
    have hlk := fun f => look_none h3 hk hf f
    have hco1 := hco.cell
    clear he
    have HZ := Lib.hid hz3; clear hz3
    go_enter Tryz.func222, Tryz.ntmps222
    go_wp2_with (go_at_call 233; refine (hlk _).mono ?_; rintro e1 w4 ⟨rfl, rfl⟩)
    go_ret2
    exact ⟨_, rfl, BytesIn.nil _ _, hb3⟩
  | some f =>
    rw [read_some hf]
    have hn := (hok.names _ (nlFind_mem hf)).1
    have hnn : f ≤ 4194304 := by have := hok.manyFiles; omega
    obtain ⟨b, e', vd, vs', hfb, hfh, hbd, _, _⟩ := h3.file_at (n := f) hn (by omega)
    have hr := read1_any hfh hbd (hok.stands_le f) hca.cell hcn.cell hco.cell hco.frozen h64
    have hlk := look_some h3 hk hf hfb (by omega) 234 #[.pointer (some ⟨w.heap.size, 0, none⟩), .pointer (some ⟨w.heap.size + 1, 0, none⟩), .pointer (some ⟨w.heap.size + 1 + 1, 0, none⟩)] enters_read1 (fun v w' => v = ((readAt (s.stands f) at_ n).2 : Int) ∧ Chg (· = w.heap.size + 1 + 1) w3 w' ∧ ∃ U, w'.cell? ⟨w.heap.size + 1 + 1, 0, none⟩ = some U ∧ BytesIn w' (NewIn w3 w') U (readAt (s.stands f) at_ n).1) hr
    clear hr hfh hbd
    have HZ := Lib.hid hz3; clear hz3
    go_enter Tryz.func222, Tryz.ntmps222
    go_wp2_with (go_at_call 233; refine hlk.mono ?_; rintro e1 w4 ⟨v, rfl, rfl, hc4, U, hU, hb4⟩; obtain ⟨ua, uc, rfl, _⟩ := hb4.row)
    go_ret2
    have hs := hb3.size
    exact ⟨_, rfl, hb4.mono (fun y hy => ⟨Nat.le_trans hs hy.1, hy.2⟩), hb3.trans ⟨hc4.os, hc4.tape, hc4.output, hc4.size, fun y hy => hc4.block y (by omega) (by omega)⟩⟩

end Go.Proofs.YtlmdpcaikhdenaaGreat
/- Disk: Size, Steps, Capacity, Pending, Room, Names. -/
namespace Go.Proofs.YtlmdpcaikhdenaaGreat
open Go.RowKit Go.Maps Go.Shelf

section
variable {w : World} {p : Nat} {s : DSt} {R : Nat → Prop} {mf mn ms : Nat} {fb : List Nat} {vs vw : Value} {ss : List Value} {ws : List (List Value)} {e : TypeId}

set_option maxRecDepth 100000 in
set_option maxHeartbeats 2000000 in
theorem Size_any (h : DiskP w p s R mf mn ms fb vs vw ss ws e) {k : List UInt8} (hk : k.length ≤ maxLen) {N : Nat} (hok : s.Ok N) (hN : N < maxList) :
    Calls Tryz.prog 224 #[.pointer (some ⟨p, 0, none⟩), .string ⟨k.toArray⟩] w fun e w' => e = .returned (.tuple #[.int .i64 ((s.size k).1 : Int), .int .i64 ((s.size k).2 : Int)]) ∧ Below w.heap.size w w' := by
  obtain ⟨w3, hw3⟩ : ∃ w3, w.alloc (.cells #[.int .i64 0] 2) = w3 := ⟨_, rfl⟩
  have hb3 : Below w.heap.size w w3 := by rw [← hw3]; exact below_alloc w _
  have hz3 : w3.heap.size = w.heap.size + 1 := by rw [← hw3]; simp
  have hca : Boxed w3 w.heap.size 2 (.int .i64 0) := by rw [← hw3]; exact Boxed.new _ _ _
  have h3 := h.below hb3
  have hmx : maxList = 4194304 := rfl
  have hco1 := hca.cell
  have HW3 := Lib.hid hw3; clear hw3
  cases hf : nlFind s.names k with
  | none =>
    have he : s.size k = (0, 7) := by unfold DSt.size; rw [hf]
    rw [he]
    have hlk := fun f => look_none h3 hk hf f
    clear he
    have HZ := Lib.hid hz3; clear hz3
    go_enter Tryz.func224, Tryz.ntmps224
    go_wp2_with fail
    rw [HW3.out]
    refine (hlk _).mono ?_
    rintro e1 w4 ⟨rfl, rfl⟩
    go_wp2
    go_ret2
    exact ⟨rfl, hb3⟩
  | some f =>
    have he : s.size k = ((s.stands f).length, 0) := by unfold DSt.size; rw [hf]
    rw [he]
    have hn := (hok.names _ (nlFind_mem hf)).1
    have hnn : f ≤ 4194304 := by have := hok.manyFiles; omega
    obtain ⟨b, e', vd, vs', hfb, hfh, hbd, _, _⟩ := h3.file_at (n := f) hn (by omega)
    obtain ⟨da, dc, rfl, _, _, _⟩ := hbd.row
    have hr : Calls Tryz.prog 237 #[.pointer (some ⟨b, 0, none⟩), .pointer (some ⟨w.heap.size, 0, none⟩)] w3 fun e w' => ∃ v, e = .returned (.int .i64 v) ∧ v = 0 ∧ w' = w3.setCell ⟨w.heap.size, 0, none⟩ (.int .i64 ((s.stands f).length : Int)) := by
      have f0 := cell_of_heap hfh (i := 0) (v := .slice da (s.stands f).length dc) (by rfl)
      have z0 := hca.frozen
      go_enter Tryz.func237, Tryz.ntmps237
      go_wp2
      go_ret
      exact ⟨_, rfl, rfl, rfl⟩
    have hlk := look_some h3 hk hf hfb (by omega) 237 #[.pointer (some ⟨w.heap.size, 0, none⟩)] enters_size1 (fun v w' => v = 0 ∧ w' = w3.setCell ⟨w.heap.size, 0, none⟩ (.int .i64 ((s.stands f).length : Int))) hr
    have hset := Boxed.set (.int .i64 ((s.stands f).length : Int)) hca
    have hcs := hset.cell
    have hcc := hb3.setCell (p := ⟨w.heap.size, 0, none⟩) (Nat.le_refl _) (.int .i64 ((s.stands f).length : Int))
    clear hr hfh hbd he
    have HZ := Lib.hid hz3; clear hz3
    go_enter Tryz.func224, Tryz.ntmps224
    go_wp2_with fail
    rw [HW3.out]
    refine hlk.mono ?_
    rintro e1 w4 ⟨v, rfl, rfl, rfl⟩
    go_wp2
    go_ret2
    exact ⟨rfl, hcc⟩

end

end Go.Proofs.YtlmdpcaikhdenaaGreat
/- Disk: Names. -/
namespace Go.Proofs.YtlmdpcaikhdenaaGreat
open Go.RowKit Go.Maps Go.Shelf

theorem before_lt : ∀ (a b : List UInt8), bytesBefore a b = true → a < b
  | [], [], h => by simp [bytesBefore] at h
  | [], _ :: _, _ => by simp
  | _ :: _, [], h => by simp [bytesBefore] at h
  | x :: r, y :: s, h => by
    simp only [bytesBefore, Bool.or_eq_true, Bool.and_eq_true, decide_eq_true_eq, beq_iff_eq] at h
    rcases h with h | ⟨rfl, h⟩
    · exact List.cons_lt_cons_iff.2 (.inl h)
    · exact List.cons_lt_cons_iff.2 (.inr ⟨rfl, before_lt r s h⟩)
theorem sorted_names {l : NL} (h : Rising l) {ss : List (List UInt8)} (hp : ss.Perm (Go.strKeys (nameD l))) : ss.mergeSort (fun x y => decide (x ≤ y)) = l.map (·.1) := by
  have e : Go.strKeys (nameD l) = l.map (·.1) := by
    simp [nameD, Go.strKeys, nameE, Go.strOf, Function.comp_def]
  rw [e] at hp
  have h1 := Go.mergeSort_of_perm hp
  show ss.mergeSort Go.leB = _
  rw [h1]
  apply List.mergeSort_of_pairwise
  rw [List.pairwise_map]
  refine List.Pairwise.imp (fun {a b} hab => ?_) h
  simp only [Go.leB, decide_eq_true_eq]
  exact List.le_of_lt (before_lt _ _ hab)

/-- maps.Keys of the names -/
theorem Keys_any (mb : Option Nat) (w : World) : Calls Tryz.prog 53 #[.map mb] w fun e w' =>
    e = .returned (.func (.func 88) #[] #[.pointer (some ⟨w.heap.size, 0, none⟩)]) ∧ w' = w.alloc (.cells #[.map mb] 109) :=
  (callsIn_wide (n := 5)).1 (AnyZ.keys_in Tryz.keysA Fence.wide 5 trivial rfl mb w)
theorem sortsA (m : Nat) : AnyZ.SortsIn Tryz.prog Tryz.sortedA_ren Fence.wide m :=
  ⟨fun blk off cap ss W hH hblk hsz => callsIn_wide.2 (AnyM.slices_Sort_string Tryz.sortA blk off cap ss W hH hblk hsz),
   fun p cap W => callsIn_wide.2 (AnyM.slices_Sort_string_none Tryz.sortA p cap W)⟩

/-- slices.Sorted of what that handed back -/
theorem Sorted_any (b nn : Nat) (l : NL) (hl : Rising l) (R : Value → Option (DataW Unit × List MemPlace)) (w : World) (hown : w.ownsMap Tryz.prog 9 R b nn (nameD l)) (hn : l.length ≤ 1000000000) :
    Calls Tryz.prog 52 #[.func (.func 88) #[] #[.pointer (some ⟨w.heap.size, 0, none⟩)]] (w.alloc (.cells #[.map (some b)] 109)) fun e w' =>
      ∃ v, e = .returned v ∧ w'.ownsRow (w.heap.size + 1) 9 1 v l.length ((l.map (·.1)).map sv) ∧ (v = .slice none 0 0 ↔ l = []) ∧ Below (w.heap.size + 1) (w.alloc (.cells #[.map (some b)] 109)) w' := by
  have hbl := hown.lt
  have hsz : Maps.size (nameD l) ≤ 1000000000 := by rw [nameD_size]; exact hn
  have hseq : SeqGives Fence.wide 2 Tryz.prog 88 #[.pointer (some ⟨w.heap.size, 0, none⟩)] Go.Proofs.encStr (fun ss => ss.Perm (Go.strKeys (nameD l))) (Maps.size (nameD l)) (w.alloc (.cells #[.map (some b)] 109)) :=
    AnyZ.keys_gives (ρ := Tryz.keysA_ren) { Tryz.keysA with } Fence.wide _ trivial rfl (by omega) w.heap.size b nn (nameD l) _ (by simp) (by simp) (by
      obtain ⟨es, clock, hb, Ft, hs, hD⟩ := hown
      exact ⟨es, clock, (Below.heap_alloc _ _ b hbl).trans hb, Ft, hs, hD⟩)
  have cS := AnyZ.sorted_in Tryz.sortedA Fence.wide 5 trivial trivial trivial trivial rfl (by omega) (sortsA _) (enters_of Tryz.func87 (by kernel_rfl) rfl) 88 #[.pointer (some ⟨w.heap.size, 0, none⟩)] trivial (enters_of Tryz.func88 (by kernel_rfl) rfl) _ _ (by unfold maxLen; omega) (by omega) _ hseq
  refine ((callsIn_wide (n := 5)).1 cS).mono ?_
  rintro e w' ⟨v, ss, rfl, hp, hr, hnil, hb⟩
  rw [World.size_alloc] at hr hb
  have hms := sorted_names hl hp
  rw [hms] at hr
  have hlen : ss.length = l.length := by
    have := hp.length_eq
    rw [this]; simp [nameD, Go.strKeys]
  rw [hlen] at hr
  refine ⟨v, rfl, hr, hnil.trans ?_, hb⟩
  constructor
  · rintro rfl; exact List.eq_nil_of_length_eq_zero (by simpa using hlen.symm)
  · rintro rfl; exact List.eq_nil_of_length_eq_zero (by simpa using hlen)

set_option maxHeartbeats 2000000 in
theorem Names_any {w : World} {p : Nat} {s : DSt} {R : Nat → Prop} {mf mn ms : Nat} {fb : List Nat} {vs vw : Value} {ss : List Value} {ws : List (List Value)} {e : TypeId} (h : DiskP w p s R mf mn ms fb vs vw ss ws e) {N : Nat} (hok : s.Ok N) (hN : N < maxList) :
    Calls Tryz.prog 111 #[.pointer (some ⟨p, 0, none⟩)] w fun e w' => ∃ v, e = .returned (.tuple #[v, .int .i64 0]) ∧ w'.ownsRow w.heap.size 9 1 v s.names.length ((s.names.map (·.1)).map sv) ∧ Below w.heap.size w w' := by
  have hth := there_any h.cells (mn := mn) (by rfl)
  have c2 := cell_of_heap h.cells (i := 2) (v := .map (some mn)) (by rfl)
  have hmx : maxList = 4194304 := rfl
  have hmn := hok.manyNames
  have cK := Keys_any (some mn) w
  have cS := Sorted_any mn _ s.names hok.rising _ w h.namesM (by omega)
  go_enter Tryz.func111, Tryz.ntmps111
  go_wp2_with (first | (go_at_call 49; refine hth.mono ?_; rintro e w1 ⟨rfl, rfl⟩) | (go_at_call 53; refine cK.mono ?_; rintro e w1 ⟨rfl, rfl⟩) | (go_at_call 52; refine cS.mono ?_; rintro e w1 ⟨v, rfl, hr, hnil, hb⟩; obtain ⟨va, vc, rfl⟩ := row_slice hr))
  go_ret2
  exact ⟨_, rfl, ownsRow_base_a hr (by omega), (below_alloc w _).trans (hb.mono (by omega))⟩

end Go.Proofs.YtlmdpcaikhdenaaGreat
/- Disk: the iterator over the files. -/
namespace Go.Proofs.YtlmdpcaikhdenaaGreat
open Go.RowKit Go.Maps Go.Shelf
attribute [local go_sem] Oper.semAt_some

/-- what a round of a loop keeps: all below hi, and cells of the types kt, wherever -/
def KpT (hi : Nat) (kt : TypeId → Prop) (W W' : World) : Prop :=
  W.heap.size ≤ W'.heap.size ∧ ∀ b o, W.heap[b]? = some o → (b < hi ∨ ∃ cs t fr, o = .cells cs t fr ∧ kt t) → W'.heap[b]? = some o
theorem KpT.refl (hi : Nat) (kt : TypeId → Prop) (W : World) : KpT hi kt W W := ⟨Nat.le_refl _, fun _ _ h _ => h⟩
theorem KpT.trans {hi : Nat} {kt : TypeId → Prop} {A B C : World} (h : KpT hi kt A B) (k : KpT hi kt B C) : KpT hi kt A C :=
  ⟨Nat.le_trans h.1 k.1, fun b o hb h1 => k.2 b o (h.2 b o hb h1) h1⟩
theorem KpT.of_below {hi : Nat} {kt : TypeId → Prop} {A B : World} (h : Below A.heap.size A B) : KpT hi kt A B := ⟨h.size, fun b _ hb _ => (h.block b (heap_lt hb)).trans hb⟩
theorem KpT.of_chg {hi : Nat} {kt : TypeId → Prop} {O : Nat → Prop} {A B : World} (h : Chg O A B) (h1 : ∀ b, O b → hi ≤ b) (h2 : ∀ b cs t fr, O b → A.heap[b]? = some (.cells cs t fr) → ¬ kt t) : KpT hi kt A B :=
  ⟨h.size, fun b o hb ho => h.obj hb (fun hO => by
    rcases ho with ho | ⟨cs, t, fr, rfl, ht⟩
    · have := h1 b hO; omega
    · exact h2 b cs t fr hO hb ht)⟩
theorem KpT.putObj {hi : Nat} {kt : TypeId → Prop} (W : World) (l : Nat) (o o' : Obj) (h : hi ≤ l) (hl : W.heap[l]? = some o) (hc : o.isCells = false) : KpT hi kt W (W.putObj l o') := by
  refine ⟨by simp, fun b ob hb h2 => ?_⟩
  by_cases e : b = l
  · subst e
    rw [hl] at hb
    cases hb
    rcases h2 with h2 | ⟨cs, t, fr, rfl, _⟩
    · omega
    · cases hc
  · exact (World.putObj_heap_other e).trans hb
theorem KpT.map {hi : Nat} {kt : TypeId → Prop} {W W' : World} (h : KpT hi kt W W') {P : Program} {k : TypeId} {R : Value → Option (DataW Unit × List MemPlace)} {b n : Nat} {D : DataW Unit} (hm : W.ownsMap P k R b n D) (hb : b < hi) : W'.ownsMap P k R b n D := by
  obtain ⟨es, clock, h1, F, hs, hD⟩ := hm
  exact ⟨es, clock, h.2 b _ h1 (.inl hb), F, hs, hD⟩
theorem KpT.row {hi : Nat} {kt : TypeId → Prop} {W W' : World} (h : KpT hi kt W W') {base : Nat} {e : TypeId} {size n : Nat} {v : Value} {xs : List Value} (hr : W.ownsRow base e size v n xs) (ht : kt e) : W'.ownsRow base e size v n xs := by
  obtain ⟨h1, h2⟩ := hr
  refine ⟨h1, h2.imp id ?_⟩
  rintro ⟨g, cap, cur, rfl, h3, h4, h5⟩
  exact ⟨g, cap, cur, rfl, h3, h.2 g _ h4 (.inr ⟨_, _, _, rfl, ht⟩), h5⟩
theorem rising_find {l : NL} (h : Rising l) {k : List UInt8} {n : Nat} (hm : (k, n) ∈ l) : nlFind l k = some n := by
  have hp := rising_ne h
  clear h
  induction l with
  | nil => cases hm
  | cons y r ih =>
    obtain ⟨h1, h2⟩ := List.pairwise_cons.1 hp
    unfold nlFind
    rw [List.find?_cons]
    rcases List.mem_cons.1 hm with rfl | hm
    · simp
    · have hne : (y.1 == k) = false := by simpa using h1 _ hm
      rw [hne]
      exact ih hm h2

/-- what the iterator hands out: the i-th name, and where its file lies -/
def itemD (s : DSt) (fb : List Nat) (i : Fin s.names.length) : Array Value := #[sv s.names[i].1, .pointer (some ⟨fb.getD s.names[i].2 0, 0, none⟩)]
theorem finRange_get (n k : Nat) (hk : k < n) : (List.finRange n)[k]? = some ⟨k, hk⟩ := by simp [hk]

set_option maxRecDepth 100000 in
set_option maxHeartbeats 4000000 in
theorem each1_stops (n : Nat) (hn : 1 ≤ n) {w : World} {p : Nat} {s : DSt} {R : Nat → Prop} {mf mn ms : Nat} {fb : List Nat} {vs vw : Value} {ss : List Value} {ws : List (List Value)} {e : TypeId} (h : DiskP w p s R mf mn ms fb vs vw ss ws e) {N : Nat} (hok : s.Ok N) (hN : N < maxList)
    {bd : Nat} (hbd : Boxed w bd 45 (.pointer (some ⟨p, 0, none⟩))) (hi : Nat) (hown : ∀ b ∈ ownL p mf mn vs vw fb, b < hi) (kt : TypeId → Prop) (k1 : kt 45) (k3 : kt 9) :
    SeqStopsK Fence.wide n Tryz.prog 110 #[.pointer (some ⟨bd, 0, none⟩)] (itemD s fb) (KpT hi kt) (fun xs => xs = List.finRange s.names.length) (fun pre => pre <+: List.finRange s.names.length) s.names.length w := by
  intro l J Jx W hW hJ hJx hY h0
  have hmx : maxList = 4194304 := rfl
  have hD := h.below hW
  have hbx : Boxed W bd 45 (.pointer (some ⟨p, 0, none⟩)) := (hW.block bd hbd.lt).trans hbd
  have cN := (callsIn_wide (n := n - 1)).2 (Names_any hD hok hN)
  have hmn := hok.manyNames
  refine callsIn_of_wp Tryz.func110 rfl trivial ?_ rfl
  simp only [Tryz.ntmps110, List.size_toArray, List.length_cons, List.length_nil, Nat.reduceAdd, Nat.reduceSub, Array.replicate_succ, Array.replicate_zero, List.push_toArray, List.append_toArray, List.nil_append, List.cons_append]
  have HY := Lib.hid hY; clear hY
  have c5 := hbx.cell
  have hf20 : Fence.wide.fn 111 := trivial
  gi_wp2_with (gi_at_call 111; refine cN.mono ?_; rintro e1 W1 ⟨v, rfl, hrow, hb1⟩; obtain ⟨va, vc, rfl⟩ := row_slice hrow)
  have hJ1 : J [] W1 := hJ [] W W1 none h0 (Below.grownBy hb1) (fun r e => by cases e)
  have hb01 := bthen hW hb1
  obtain ⟨xs, hxs⟩ : ∃ xs, xs = List.finRange s.names.length := ⟨_, rfl⟩
  have hlen : xs.length = s.names.length := by rw [hxs]; simp
  have hget : ∀ k (hk : k < s.names.length), xs[k]? = some ⟨k, hk⟩ := fun k hk => by rw [hxs]; exact finRange_get _ _ hk
  have hsz1 := hb01.size
  have hsz2 := hb1.size
  gi_loopw [14] (fun i wr => ∃ k : Nat, k ≤ s.names.length ∧ i = .int .i64 k ∧ J (xs.take k) wr ∧ KpT hi kt W1 wr) (fun i _ => s.names.length - (RowKit.intOf i).toNat)
  case atStart => exact ⟨0, by omega, rfl, by simpa using hJ1, KpT.refl _ _ _⟩
  case round =>
    obtain ⟨k, hk, rfl, hJs, hkp⟩ := hrel
    by_cases hlt : k < s.names.length
    · have hD1 := h.below hb01
      have hcells := hkp.2 p _ hD1.cells (.inl (hown _ mem_own_p))
      have hbox := hkp.2 bd _ ((hb01.block bd hbd.lt).trans hbd) (.inr ⟨_, _, _, rfl, k1⟩)
      have c0 := cell_of_heap hcells (i := 1) (v := .map (some mf)) (by rfl)
      have c2 := cell_of_heap hcells (i := 2) (v := .map (some mn)) (by rfl)
      have cb := (show Boxed wr bd 45 (.pointer (some ⟨p, 0, none⟩)) from hbox).cell
      have hnm := hkp.map hD1.namesM (hown _ mem_own_mn)
      have hfm := hkp.map hD1.filesM (hown _ mem_own_mf)
      have hrw := hkp.row hrow k3
      obtain ⟨nm, m, hnmm⟩ : ∃ nm m, s.names[k] = (nm, m) := ⟨_, _, rfl⟩
      have hmem : (nm, m) ∈ s.names := by rw [← hnmm]; exact List.getElem_mem hlt
      obtain ⟨hm, hok1⟩ := hok.names _ hmem
      have hmfb : m < fb.length := by have := h.count; simp only at hm; omega
      have hm63 : m < 9223372036854775808 := by have := hok.manyFiles; simp only at hm; omega
      have hl1 : (Instr.lookup 109 (.map (some mn)) (.string ⟨nm.toArray⟩) false).run Tryz.prog wr.drew = .ok (.int .i64 (m : Int)) wr.drew := by
        have := look_name1 (w := wr.drew) (b := mn) (l := s.names) hnm (k := nm) (by have : nm.length ≤ 64 := hok1.2.1; unfold maxLen; omega)
        rw [rising_find hok.rising hmem] at this
        exact this
      have hl2 : (Instr.lookup 107 (.map (some mf)) (.int .i64 (m : Int)) false).run Tryz.prog wr.drew = .ok (.pointer (some ⟨fb[m], 0, none⟩)) wr.drew := look_file (w := wr.drew) hfm hmfb hm63
      obtain ⟨_, _, hve, hra, _⟩ := RowAt.of_owns hrw
      simp only [Value.slice.injEq] at hve
      obtain ⟨rfl, _, rfl⟩ := hve
      obtain ⟨gb, go, rfl, hcx⟩ := hra.at_ (k := k) (by simpa using hlt)
      simp only [List.getElem_map, hnmm] at hcx
      have hx := hget k hlt
      have hfbm : fb.getD m 0 = fb[m] := by simp [hmfb]
      have hJd : J (xs.take k) wr.drew := hJ _ wr wr.drew none hJs (Below.grownBy (Below.refl _ _).drew) (fun r e => by cases e)
      obtain ⟨fn, tmps, assign, body, hy, hR⟩ := HY.out _ ⟨k, hlt⟩ wr.drew hJd (by simp [hlen]; omega)
      have hstep : xs.take k ++ [⟨k, hlt⟩] = xs.take (k + 1) := by rw [List.take_add_one, hx]; rfl
      rw [hstep] at hR
      simp only [itemD, Fin.getElem_fin, hnmm, hfbm, sv] at hy hcx
      have HST := Lib.hid hstep; clear hstep hx
      have j0 : (0 : Int) ≤ (k : Int) := by omega
      have j1 : (k : Int) < (s.names.length : Int) := by omega
      obtain ⟨fbm, hfe⟩ : ∃ fbm, fbm = fb[m] := ⟨_, rfl⟩
      rw [← hfe] at hy hl2
      have HFE := Lib.hid hfe; clear hfe hfbm
      gi_wp2_with fail
      gi_region_with (refine hR.mono ?_; rintro e3 W3 hcase; obtain ⟨bq, rfl, hq⟩ : ∃ bq, e3 = .returned (.bool bq) ∧ ((bq = true ∧ J (xs.take (k + 1)) W3 ∧ KpT hi kt wr.drew W3) ∨ (bq = false ∧ Jx (xs.take (k + 1)) W3)) := by rcases hcase with ⟨h1, h2, h3⟩ | ⟨h1, h2⟩; exact ⟨true, h1, .inl ⟨rfl, h2, h3⟩⟩; exact ⟨false, h1, .inr ⟨rfl, h2⟩⟩)
      all_goals
        clear hcase
        rcases hq with ⟨rfl, hq1, hq2⟩ | ⟨rfl, hq1⟩
        · have hkp2 : KpT hi kt W1 W3 := (hkp.trans (KpT.of_below (Below.refl _ _).drew)).trans hq2
          gi_wp2
          go_roundw
          case rel => exact ⟨k + 1, by omega, by go_num, hq1, hkp2⟩
          case measure => simp [RowKit.intOf]; omega
        · have hpre := List.take_prefix (k + 1) xs
          gi_wp2
          exact bodyPost_ret (results_none rfl _ _ _) rfl ⟨⟨_, rfl⟩, .inr ⟨_, by rw [← hxs]; exact hpre, hq1⟩⟩
    · obtain rfl : k = s.names.length := by omega
      gi_wp2
      go_end0
      exact ⟨⟨_, rfl⟩, .inl ⟨_, rfl, by rw [← hxs]; rwa [List.take_of_length_le (by omega)] at hJs⟩⟩

end Go.Proofs.YtlmdpcaikhdenaaGreat
