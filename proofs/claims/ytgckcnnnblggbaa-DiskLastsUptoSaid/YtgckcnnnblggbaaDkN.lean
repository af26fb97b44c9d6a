/- Disk: look, Read, Size, and what a disk tells of itself by a number. -/
import Derived.Test.YtgckcnnnblggbaaDkL
namespace Go.Proofs.Ytgckcnnnblggbaa
open Go.RowKit Go.Maps Go.Shelf

set_option maxHeartbeats 1000000 in
theorem look_none {w : World} {p : Nat} {s : DSt} {R : Nat → Prop} {mf mn ms : Nat} {fb : List Nat} {vs vw : Value} {ss : List Value} {ws : List (List Value)} {e : TypeId} (h : DiskP w p s R mf mn ms fb vs vw ss ws e)
    {k : List UInt8} (hk : k.length ≤ maxLen) (hf : nlFind s.names k = none) (f : Value) :
    Calls Try.prog 52 #[.pointer (some ⟨p, 0, none⟩), .string ⟨k.toArray⟩, f] w fun e w' => e = .returned (.int .i64 7) ∧ w = w' := by
  have hth := there_any h.cells (mn := mn) (by rfl)
  have c2 := cell_of_heap h.cells (i := 2) (v := .map (some mn)) (by rfl)
  have hl := look_name h.namesM hk
  rw [hf] at hl
  simp only [Option.getD_none, Option.isSome_none] at hl
  clear hf
  go_enter Try.func52, Try.ntmps52
  go_wp2_with (go_at_call 45; refine hth.mono ?_; rintro e w1 ⟨rfl, rfl⟩)
  go_ret
  exact ⟨rfl, rfl⟩

set_option maxHeartbeats 1000000 in
theorem look_some {w : World} {p : Nat} {s : DSt} {R : Nat → Prop} {mf mn ms : Nat} {fb : List Nat} {vs vw : Value} {ss : List Value} {ws : List (List Value)} {e : TypeId} (h : DiskP w p s R mf mn ms fb vs vw ss ws e)
    {k : List UInt8} (hk : k.length ≤ maxLen) {n b : Nat} (hf : nlFind s.names k = some n) (hb : fb[n]? = some b) (h63 : n < 9223372036854775808) (N : FuncId) (caps : Array Value) (henter : ∀ args w, (callFunc N args).run Try.prog w = .ok (.enter N args) w)
    (Q : Int → World → Prop) (hcall : Calls Try.prog N (#[.pointer (some ⟨b, 0, none⟩)] ++ caps) w fun e w' => ∃ v, e = .returned (.int .i64 v) ∧ Q v w') :
    Calls Try.prog 52 #[.pointer (some ⟨p, 0, none⟩), .string ⟨k.toArray⟩, .func (.func N) #[] caps] w fun e w' => ∃ v, e = .returned (.int .i64 v) ∧ Q v w' := by
  have hth := there_any h.cells (mn := mn) (by rfl)
  have c2 := cell_of_heap h.cells (i := 2) (v := .map (some mn)) (by rfl)
  have c1 := cell_of_heap h.cells (i := 1) (v := .map (some mf)) (by rfl)
  have hl := look_name h.namesM hk
  rw [hf] at hl
  simp only [Option.getD_some, Option.isSome_some] at hl
  obtain ⟨hlt, hbe⟩ := List.getElem?_eq_some_iff.1 hb
  have hlf := look_file h.filesM hlt h63
  rw [hbe] at hlf
  clear hf hbe hb
  go_enter Try.func52, Try.ntmps52
  go_wp2_with (first | (go_at_call 45; refine hth.mono ?_; rintro e w1 ⟨rfl, rfl⟩) | (refine hcall.mono ?_; rintro e w1 ⟨v, rfl, hq⟩))
  go_ret
  exact ⟨_, rfl, hq⟩

/-- Read, once the file is found -/
def readAt (l : List UInt8) (at_ n : Int) : List UInt8 × Nat := if at_ < 0 ∨ n < 0 then ([], 2) else if (l.length : Int) < at_ then ([], 4) else ((l.drop at_.toNat).take n.toNat, 0)
theorem read_some {s : DSt} {k : List UInt8} {f : Nat} (hf : nlFind s.names k = some f) (at_ n : Int) : s.read k at_ n = readAt (s.stands f) at_ n := by unfold DSt.read; rw [hf]; rfl
theorem enters_read1 : enters 53 := fun args w => by go_simp
theorem enters_size1 : enters 66 := fun args w => by go_simp

set_option maxRecDepth 100000 in
set_option maxHeartbeats 4000000 in
theorem read1_any {w : World} {R : Nat → Prop} {b : Nat} {vd vs' : Value} {e' : TypeId} {l : List UInt8} (hfh : w.heap[b]? = some (.cells #[vd, vs'] e' (0, 0))) (hbd : BytesIn w R vd l) (hl : l.length ≤ maxFile)
    {ba bn bo : Nat} {at_ n : Int} (ca : w.cell? ⟨ba, 0, none⟩ = some (.int .i64 at_)) (cn : w.cell? ⟨bn, 0, none⟩ = some (.int .i64 n)) (co : w.cell? ⟨bo, 0, none⟩ = some (.slice none 0 0)) (zo : w.frozen? ⟨bo, 0, none⟩ = false) (h64 : -9223372036854775808 ≤ at_ ∧ at_ < 9223372036854775808) :
    Calls Try.prog 53 #[.pointer (some ⟨b, 0, none⟩), .pointer (some ⟨ba, 0, none⟩), .pointer (some ⟨bn, 0, none⟩), .pointer (some ⟨bo, 0, none⟩)] w fun e w' =>
      ∃ v, e = .returned (.int .i64 v) ∧ v = ((readAt l at_ n).2 : Int) ∧ Chg (· = bo) w w' ∧ ∃ U, w'.cell? ⟨bo, 0, none⟩ = some U ∧ BytesIn w' (NewIn w w') U (readAt l at_ n).1 := by
  have hmf : maxFile = 1099511627776 := rfl
  obtain ⟨da, dc, rfl, hdl, hdn, hdr⟩ := hbd.row
  have f0 := cell_of_heap hfh (i := 0) (v := .slice da l.length dc) (by rfl)
  by_cases e1 : at_ < 0
  · have he : readAt l at_ n = ([], 2) := by unfold readAt; rw [if_pos (.inl e1)]
    rw [he]
    clear he
    have g1 : decide (at_ < 0) = true := by simpa using e1
    go_enter Try.func53, Try.ntmps53
    go_wp2
    go_ret
    exact ⟨_, rfl, rfl, Chg.refl _ _, _, co, BytesIn.nil _ _⟩
  have g1 : decide (at_ < 0) = false := by simpa using e1
  by_cases e2 : n < 0
  · have he : readAt l at_ n = ([], 2) := by unfold readAt; rw [if_pos (.inr e2)]
    rw [he]
    clear he
    have g2 : decide (n < 0) = true := by simpa using e2
    go_enter Try.func53, Try.ntmps53
    go_wp2
    go_ret
    exact ⟨_, rfl, rfl, Chg.refl _ _, _, co, BytesIn.nil _ _⟩
  have g2 : decide (n < 0) = false := by simpa using e2
  by_cases e3 : (l.length : Int) < at_
  · have he : readAt l at_ n = ([], 4) := by unfold readAt; rw [if_neg (by rintro (h | h); exact e1 h; exact e2 h), if_pos e3]
    rw [he]
    clear he
    have g3 : decide ((l.length : Int) < at_) = true := by simpa using e3
    generalize l.length = ll at *
    go_enter Try.func53, Try.ntmps53
    go_wp2
    go_quiet (fail)
    have hcn := (Chg.refl (· = bo) w).drewN nq
    have co' : (w.drewN nq).cell? ⟨bo, 0, none⟩ = some (.slice none 0 0) := co
    go_wp2
    go_ret
    exact ⟨_, rfl, rfl, hcn, _, co', BytesIn.nil _ _⟩
  have g3 : decide ((l.length : Int) < at_) = false := by simpa using e3
  obtain ⟨q, rfl⟩ : ∃ q : Nat, at_ = (q : Int) := ⟨at_.toNat, by omega⟩
  obtain ⟨m, rfl⟩ : ∃ m : Nat, n = (m : Int) := ⟨n.toNat, by omega⟩
  have he : readAt l q m = ((l.drop q).take m, 0) := by unfold readAt; rw [if_neg (by rintro (h | h); exact e1 h; exact e2 h), if_neg e3]; simp
  rw [he]
  clear he
  have hql : q ≤ l.length := by omega
  have hsl1 := run_slice_lo (P := Try.prog) 28 5 Try.underlying28 Try.sizeOf5 da l.length dc q hql
  have hrow2 : RowAt w (subAt da dc q) ((l.drop q).map bv) := by rw [List.map_drop]; exact hdr.drop dc q (by simpa using hdl)
  have hnil2 : subAt da dc q = none → dc - q = 0 := fun e => by have := hdn (subAt_none.1 e); omega
  have hdln : (l.drop q).length = l.length - q := by simp
  generalize hSA : subAt da dc q = sa at *
  by_cases e4 : m ≤ l.length - q
  · have htk : ((l.drop q).take m).length = m := by simp; omega
    have hsl2 := run_slice_hi (P := Try.prog) 28 5 Try.underlying28 Try.sizeOf5 sa (l.length - q) (dc - q) m (by omega)
    have hC := clone_any sa (dc - q) ((l.drop q).take m)
    rw [htk] at hC
    have hrow3 : RowAt w sa (((l.drop q).take m).map bv) := by rw [List.map_take]; exact hrow2.take m
    have HC := Lib.hid hC; clear hC
    have hm1 : (m : Int) ≤ ((l.length - q : Nat) : Int) := by omega
    have hcast : ((l.length - q : Nat) : Int) = (l.length : Int) - (q : Int) := by omega
    go_enter Try.func53, Try.ntmps53
    go_wp2
    go_quiet (fail)
    have hb3 : Below w.heap.size w (w.drewN nq) := below_drewN (Below.refl _ _) nq
    have cn3 := (hb3.cell (p := ⟨bn, 0, none⟩) (cell_lt cn)).trans cn
    have ca3 := (hb3.cell (p := ⟨ba, 0, none⟩) (cell_lt ca)).trans ca
    have f03 := (hb3.cell (p := ⟨b, 0, none⟩) (cell_lt f0)).trans f0
    generalize w.drewN nq = w3 at *
    go_wp2
    go_quiet (fail)
    have hb4 : Below w.heap.size w (w3.drewN nq) := below_drewN hb3 nq
    clear cn3 ca3 f03
    generalize w3.drewN nq = w4 at *
    have cn4 := (hb4.cell (p := ⟨bn, 0, none⟩) (cell_lt cn)).trans cn
    have co4 := (hb4.cell (p := ⟨bo, 0, none⟩) (cell_lt co)).trans co
    have zo4 := (hb4.frozen (p := ⟨bo, 0, none⟩) (cell_lt co)).trans zo
    have hr4 := hrow3.below hb4
    clear ca cn f0 hsl1
    go_wp2_with fail
    rw [show (min (m : Int) ((l.length : Int) - (q : Int))).toNat = m by omega]
    refine (HC.out w4 hnil2 hr4 (by omega)).mono ?_
    rintro _ w5 ⟨U, rfl, hU5, hb5⟩
    obtain ⟨ua, uc, rfl, _⟩ := hU5.row
    have co5 := (hb5.cell (p := ⟨bo, 0, none⟩) (cell_lt co4)).trans co4
    have zo5 := (hb5.frozen (p := ⟨bo, 0, none⟩) (cell_lt co4)).trans zo4
    have hlt4 : bo < w4.heap.size := cell_lt co4
    obtain ⟨L, hL⟩ : ∃ L, L = (l.drop q).take m := ⟨_, rfl⟩
    rw [← hL] at hU5 ⊢
    have HL := Lib.hid hL
    clear hL HC
    have hc5 : Chg (· = bo) w5 (w5.setCell ⟨bo, 0, none⟩ (.slice ua L.length uc)) := Chg.set _ rfl
    have hs4 := hb4.size
    have hsz : (w5.setCell ⟨bo, 0, none⟩ (.slice ua L.length uc)).heap.size = w5.heap.size := by simp [World.setCell]
    have hUf := hU5.kept hc5 (R' := NewIn w (w5.setCell ⟨bo, 0, none⟩ (.slice ua L.length uc))) (fun y hy => by have := hy.1; show ¬ y = bo; omega) (fun y hy => ⟨by have := hy.1; omega, by have := hy.2; omega⟩)
    have cof : (w5.setCell ⟨bo, 0, none⟩ (.slice ua L.length uc)).cell? ⟨bo, 0, none⟩ = some (.slice ua L.length uc) := by go_simp
    have hcf : Chg (· = bo) w (w5.setCell ⟨bo, 0, none⟩ (.slice ua L.length uc)) := ((Chg.of_below hb4).trans (Chg.of_below (O := (· = bo)) hb5) (fun _ h _ => h)).trans hc5 (fun _ h _ => h)
    clear hb4 hb5 hU5 hc5 hr4 hsz
    go_wp2
    go_ret
    exact ⟨_, rfl, rfl, hcf, _, cof, by rw [← HL.out]; exact hUf⟩
  · have htk : (l.drop q).take m = l.drop q := List.take_of_length_le (by omega)
    rw [htk]
    have hsl2 := run_slice_hi (P := Try.prog) 28 5 Try.underlying28 Try.sizeOf5 sa (l.length - q) (dc - q) (l.length - q) (by omega)
    have hC := clone_any sa (dc - q) (l.drop q)
    rw [hdln] at hC
    have hrow3 := hrow2
    have HC := Lib.hid hC; clear hC
    have hcast : ((l.length - q : Nat) : Int) = (l.length : Int) - (q : Int) := by omega
    go_enter Try.func53, Try.ntmps53
    go_wp2
    go_quiet (fail)
    have hb3 : Below w.heap.size w (w.drewN nq) := below_drewN (Below.refl _ _) nq
    have cn3 := (hb3.cell (p := ⟨bn, 0, none⟩) (cell_lt cn)).trans cn
    have ca3 := (hb3.cell (p := ⟨ba, 0, none⟩) (cell_lt ca)).trans ca
    have f03 := (hb3.cell (p := ⟨b, 0, none⟩) (cell_lt f0)).trans f0
    generalize w.drewN nq = w3 at *
    go_wp2
    go_quiet (fail)
    have hb4 : Below w.heap.size w (w3.drewN nq) := below_drewN hb3 nq
    clear cn3 ca3 f03
    generalize w3.drewN nq = w4 at *
    have cn4 := (hb4.cell (p := ⟨bn, 0, none⟩) (cell_lt cn)).trans cn
    have co4 := (hb4.cell (p := ⟨bo, 0, none⟩) (cell_lt co)).trans co
    have zo4 := (hb4.frozen (p := ⟨bo, 0, none⟩) (cell_lt co)).trans zo
    have hr4 := hrow3.below hb4
    clear ca cn f0 hsl1
    go_wp2_with fail
    rw [show (min (m : Int) ((l.length : Int) - (q : Int))).toNat = l.length - q by omega]
    refine (HC.out w4 hnil2 hr4 (by omega)).mono ?_
    rintro _ w5 ⟨U, rfl, hU5, hb5⟩
    obtain ⟨ua, uc, rfl, _⟩ := hU5.row
    have co5 := (hb5.cell (p := ⟨bo, 0, none⟩) (cell_lt co4)).trans co4
    have zo5 := (hb5.frozen (p := ⟨bo, 0, none⟩) (cell_lt co4)).trans zo4
    have hlt4 : bo < w4.heap.size := cell_lt co4
    obtain ⟨L, hL⟩ : ∃ L, L = l.drop q := ⟨_, rfl⟩
    rw [← hL] at hU5 ⊢
    have HL := Lib.hid hL
    clear hL HC
    have hc5 : Chg (· = bo) w5 (w5.setCell ⟨bo, 0, none⟩ (.slice ua L.length uc)) := Chg.set _ rfl
    have hs4 := hb4.size
    have hsz : (w5.setCell ⟨bo, 0, none⟩ (.slice ua L.length uc)).heap.size = w5.heap.size := by simp [World.setCell]
    have hUf := hU5.kept hc5 (R' := NewIn w (w5.setCell ⟨bo, 0, none⟩ (.slice ua L.length uc))) (fun y hy => by have := hy.1; show ¬ y = bo; omega) (fun y hy => ⟨by have := hy.1; omega, by have := hy.2; omega⟩)
    have cof : (w5.setCell ⟨bo, 0, none⟩ (.slice ua L.length uc)).cell? ⟨bo, 0, none⟩ = some (.slice ua L.length uc) := by go_simp
    have hcf : Chg (· = bo) w (w5.setCell ⟨bo, 0, none⟩ (.slice ua L.length uc)) := ((Chg.of_below hb4).trans (Chg.of_below (O := (· = bo)) hb5) (fun _ h _ => h)).trans hc5 (fun _ h _ => h)
    clear hb4 hb5 hU5 hc5 hr4 hsz
    go_wp2
    go_ret
    exact ⟨_, rfl, rfl, hcf, _, cof, by rw [← HL.out]; exact hUf⟩

set_option maxRecDepth 100000 in
set_option maxHeartbeats 4000000 in
theorem Read_any {w : World} {p : Nat} {s : DSt} {R : Nat → Prop} {mf mn ms : Nat} {fb : List Nat} {vs vw : Value} {ss : List Value} {ws : List (List Value)} {e : TypeId} (h : DiskP w p s R mf mn ms fb vs vw ss ws e)
    {k : List UInt8} (hk : k.length ≤ maxLen) {N : Nat} (hok : s.Ok N) (hN : N < maxList) {at_ n : Int} (h64 : -9223372036854775808 ≤ at_ ∧ at_ < 9223372036854775808) :
    Calls Try.prog 22 #[.pointer (some ⟨p, 0, none⟩), .string ⟨k.toArray⟩, .int .i64 at_, .int .i64 n] w fun e w' => ∃ U, e = .returned (.tuple #[U, .int .i64 ((s.read k at_ n).2 : Int)]) ∧ BytesIn w' (NewIn w w') U (s.read k at_ n).1 ∧ Below w.heap.size w w' := by
  obtain ⟨w3, hw3⟩ : ∃ w3, ((w.alloc (.cells #[.int .i64 at_] 2)).alloc (.cells #[.int .i64 n] 3)).alloc (.cells #[.slice none 0 0] 28) = w3 := ⟨_, rfl⟩
  have hb3 : Below w.heap.size w w3 := by rw [← hw3]; exact ((below_alloc w _).alloc (by simp) _).alloc (by simp; omega) _
  have hz3 : w3.heap.size = w.heap.size + 1 + 1 + 1 := by rw [← hw3]; simp
  have hca : Boxed w3 w.heap.size 2 (.int .i64 at_) := by rw [← hw3]; exact ((Boxed.new _ _ _).alloc _).alloc _
  have hcn : Boxed w3 (w.heap.size + 1) 3 (.int .i64 n) := by rw [← hw3]; have := (Boxed.new (w.alloc (.cells #[.int .i64 at_] 2)) 3 (.int .i64 n)).alloc (.cells #[.slice none 0 0] 28); rwa [World.size_alloc] at this
  have hco : Boxed w3 (w.heap.size + 1 + 1) 28 (.slice none 0 0) := by rw [← hw3]; have := Boxed.new ((w.alloc (.cells #[.int .i64 at_] 2)).alloc (.cells #[.int .i64 n] 3)) 28 (.slice none 0 0); rwa [World.size_alloc, World.size_alloc] at this
  have h3 := h.below hb3
  have hmx : maxList = 4194304 := rfl
  cases hf : nlFind s.names k with
  | none =>
    have he : s.read k at_ n = ([], 7) := by unfold DSt.read; rw [hf]
    rw [he]
    have hlk := fun f => look_none h3 hk hf f
    have hco1 := hco.cell
    clear he
    have HZ := Lib.hid hz3; clear hz3
    go_enter Try.func22, Try.ntmps22
    go_wp2_with (go_at_call 52; refine (hlk _).mono ?_; rintro e1 w4 ⟨rfl, rfl⟩)
    go_ret2
    exact ⟨_, rfl, BytesIn.nil _ _, hb3⟩
  | some f =>
    rw [read_some hf]
    have hn := (hok.names _ (nlFind_mem hf)).1
    have hnn : f ≤ 4194304 := by have := hok.manyFiles; omega
    obtain ⟨b, e', vd, vs', hfb, hfh, hbd, _, _⟩ := h3.file_at (n := f) hn (by omega)
    have hr := read1_any hfh hbd (hok.stands_le f) hca.cell hcn.cell hco.cell hco.frozen h64
    have hlk := look_some h3 hk hf hfb (by omega) 53 #[.pointer (some ⟨w.heap.size, 0, none⟩), .pointer (some ⟨w.heap.size + 1, 0, none⟩), .pointer (some ⟨w.heap.size + 1 + 1, 0, none⟩)] enters_read1 (fun v w' => v = ((readAt (s.stands f) at_ n).2 : Int) ∧ Chg (· = w.heap.size + 1 + 1) w3 w' ∧ ∃ U, w'.cell? ⟨w.heap.size + 1 + 1, 0, none⟩ = some U ∧ BytesIn w' (NewIn w3 w') U (readAt (s.stands f) at_ n).1) hr
    clear hr hfh hbd
    have HZ := Lib.hid hz3; clear hz3
    go_enter Try.func22, Try.ntmps22
    go_wp2_with (go_at_call 52; refine hlk.mono ?_; rintro e1 w4 ⟨v, rfl, rfl, hc4, U, hU, hb4⟩; obtain ⟨ua, uc, rfl, _⟩ := hb4.row)
    go_ret2
    have hs := hb3.size
    exact ⟨_, rfl, hb4.mono (fun y hy => ⟨Nat.le_trans hs hy.1, hy.2⟩), hb3.trans ⟨hc4.os, hc4.tape, hc4.output, hc4.size, fun y hy => hc4.block y (by omega) (by omega)⟩⟩

end Go.Proofs.Ytgckcnnnblggbaa
