/- Texts of this claim, one behind the other: FaA, SgZ, Sha, Shb, Shc, Shd. -/
import Derived.Test.YtlmdpcaikhdenaaGreatSl23
import Derived.Test.YtlmdpcaikhdenaaGreatSl24
import Derived.Test.YtlmdpcaikhdenaaGreatSl17
import Derived.Handy
import Derived.Test.YtlmdpcaikhdenaaGreatSl07
set_option linter.unusedSimpArgs false
set_option linter.unusedVariables false
/- The program's disk by itself: the blocks that it writes, those that it reads, too. (printed by gen/one.py) -/
namespace Go.Proofs.YtlmdpcaikhdenaaGreat
open Go.RowKit Go.Maps

/-- the program's disk s lies at p; F are the blocks that it writes, G those that it reads, too -/
def One (F G : Nat → Prop) (w : World) (p : Nat) (s : DSt) : Prop := ∃ own R, DiskAt w p s own R ∧ (∀ b, F b ↔ b ∈ own) ∧ ∀ b, G b ↔ R b
/-- a step: what is written and read from now on is of the old blocks, or new -/
def Moved (F G F' G' : Nat → Prop) (w w' : World) : Prop := Chg F w w' ∧ (∀ b, F' b → (F b ∨ w.heap.size ≤ b) ∧ b < w'.heap.size) ∧ ∀ b, G' b → (G b ∨ w.heap.size ≤ b) ∧ b < w'.heap.size
section
variable {F G : Nat → Prop} {w : World} {p : Nat} {s : DSt} {N : Nat}
theorem One.has (h : One F G w p s) : Has 0 w p s := by
  obtain ⟨own, R, h1, _⟩ := h
  exact ⟨own, R, h1, fun _ _ => Nat.zero_le _⟩
theorem One.lt (h : One F G w p s) : (∀ b, F b → b < w.heap.size) ∧ (∀ b, G b → b < w.heap.size) ∧ (∀ b, F b → ¬ G b) ∧ F p := by
  obtain ⟨own, R, h1, h2, h3⟩ := h
  exact ⟨fun b hb => h1.own_lt ((h2 b).1 hb), fun b hb => (h1.shared ((h3 b).1 hb)).1, fun b hb hg => (h1.shared ((h3 b).1 hg)).2 ((h2 b).1 hb), (h2 p).2 h1.p_mem⟩
theorem One.kept (h : One F G w p s) {O : Nat → Prop} {w' : World} (hc : Chg O w w') (hF : ∀ b, F b → ¬ O b) (hG : ∀ b, G b → ¬ O b) : One F G w' p s := by
  obtain ⟨own, R, ⟨mf, mn, ms, fb, vs, vw, ss, ws, e, h1, rfl⟩, h2, h3⟩ := h
  exact ⟨_, R, ⟨mf, mn, ms, fb, vs, vw, ss, ws, e, h1.kept hc (fun b hb => hG b ((h3 b).2 hb)) (fun b hb => hF b ((h2 b).2 hb)), rfl⟩, h2, h3⟩
theorem One.below (h : One F G w p s) {w' : World} (hb : Below w.heap.size w w') : One F G w' p s := h.kept (O := fun _ => False) (Chg.of_below hb) (fun _ _ h => h) (fun _ _ h => h)
theorem One.turn {w' : World} {s' : DSt} {own : List Nat} {R : Nat → Prop} (h2 : ∀ b, F b ↔ b ∈ own) (h3 : ∀ b, G b ↔ R b) (ht : Turns w w' p s' own R) : ∃ F' G', One F' G' w' p s' ∧ Moved F G F' G' w w' := by
  obtain ⟨own', k1, k2, k3⟩ := ht
  have ho : One (fun b => b ∈ own') (RNew R w w' own') w' p s' := ⟨own', _, k1, fun _ => Iff.rfl, fun _ => Iff.rfl⟩
  refine ⟨_, _, ho, k2.mono (fun b hb _ => (h2 b).2 hb), fun b hb => ⟨(k3 b hb).imp (h2 b).2 id, ho.lt.1 b hb⟩, fun b hb => ⟨?_, ho.lt.2.1 b hb⟩⟩
  rcases hb with hb | hb
  · exact .inl ((h3 b).2 hb)
  · exact .inr hb.1
theorem One.create (h : One F G w p s) {k : List UInt8} (hk : k.length ≤ maxLen) (hok : s.Ok N) (hN : N + 1 < maxList) :
    Calls Tryz.prog 220 #[.pointer (some ⟨p, 0, none⟩), .string ⟨k.toArray⟩] w fun e w' => e = .returned (.int .i64 ((s.create k).2 : Int)) ∧ ∃ F' G', One F' G' w' p (s.create k).1 ∧ Moved F G F' G' w w' := by
  obtain ⟨own, R, ⟨mf, mn, ms, fb, vs, vw, ss, ws, e, h1, rfl⟩, h2, h3⟩ := h
  exact (Create_any h1 hk hok (by omega)).mono fun e w' ⟨k1, k2⟩ => ⟨k1, One.turn h2 h3 k2⟩
theorem One.put (h : One F G w p s) {k : List UInt8} (hk : k.length ≤ maxLen) {at_ : Int} {xa : Option Addr} {xc : Nat} {l : List UInt8} (hrow : RowAt w xa (l.map bv)) (hnil : xa = none → xc = 0) (hl : l.length ≤ 140737488355328) (h64 : -9223372036854775808 ≤ at_ ∧ at_ < 9223372036854775808) (hok : s.Ok N) (hN : N + 1 < maxList) :
    Calls Tryz.prog 226 #[.pointer (some ⟨p, 0, none⟩), .string ⟨k.toArray⟩, .int .i64 at_, .slice xa l.length xc] w fun e w' => e = .returned (.int .i64 ((s.put k at_ l).2 : Int)) ∧ ∃ F' G', One F' G' w' p (s.put k at_ l).1 ∧ Moved F G F' G' w w' := by
  obtain ⟨own, R, ⟨mf, mn, ms, fb, vs, vw, ss, ws, e, h1, rfl⟩, h2, h3⟩ := h
  exact (Write_any h1 hk hok hN hrow hnil hl h64).mono fun e w' ⟨k1, k2⟩ => ⟨k1, One.turn h2 h3 k2⟩
theorem One.cut (h : One F G w p s) {k : List UInt8} (hk : k.length ≤ maxLen) {size : Int} (h64 : -9223372036854775808 ≤ size ∧ size < 9223372036854775808) (hok : s.Ok N) (hN : N + 1 < maxList) :
    Calls Tryz.prog 221 #[.pointer (some ⟨p, 0, none⟩), .string ⟨k.toArray⟩, .int .i64 size] w fun e w' => e = .returned (.int .i64 ((s.cut k size).2 : Int)) ∧ ∃ F' G', One F' G' w' p (s.cut k size).1 ∧ Moved F G F' G' w w' := by
  obtain ⟨own, R, ⟨mf, mn, ms, fb, vs, vw, ss, ws, e, h1, rfl⟩, h2, h3⟩ := h
  exact (Cut_any h1 hk hok hN h64).mono fun e w' ⟨k1, k2⟩ => ⟨k1, One.turn h2 h3 k2⟩
theorem One.sync (h : One F G w p s) {k : List UInt8} (hk : k.length ≤ maxLen) (hok : s.Ok N) (hN : N + 1 < maxList) :
    Calls Tryz.prog 225 #[.pointer (some ⟨p, 0, none⟩), .string ⟨k.toArray⟩] w fun e w' => e = .returned (.int .i64 ((s.sync k).2 : Int)) ∧ ∃ F' G', One F' G' w' p (s.sync k).1 ∧ Moved F G F' G' w w' := by
  obtain ⟨own, R, ⟨mf, mn, ms, fb, vs, vw, ss, ws, e, h1, rfl⟩, h2, h3⟩ := h
  exact (Sync_any h1 hk hok hN).mono fun e w' ⟨k1, k2⟩ => ⟨k1, One.turn h2 h3 k2⟩
theorem One.syncNames (h : One F G w p s)  (hok : s.Ok N) (hN : N + 1 < maxList) :
    Calls Tryz.prog 20 #[.pointer (some ⟨p, 0, none⟩)] w fun e w' => e = .returned (.int .i64 ((s.syncNames).2 : Int)) ∧ ∃ F' G', One F' G' w' p (s.syncNames).1 ∧ Moved F G F' G' w w' := by
  obtain ⟨own, R, ⟨mf, mn, ms, fb, vs, vw, ss, ws, e, h1, rfl⟩, h2, h3⟩ := h
  exact (SyncNames_any h1 hok hN).mono fun e w' ⟨k1, k2⟩ => ⟨k1, One.turn h2 h3 k2⟩
theorem One.remove (h : One F G w p s) {k : List UInt8} (hk : k.length ≤ maxLen) (hok : s.Ok N) (hN : N + 1 < maxList) :
    Calls Tryz.prog 223 #[.pointer (some ⟨p, 0, none⟩), .string ⟨k.toArray⟩] w fun e w' => e = .returned (.int .i64 ((s.remove k).2 : Int)) ∧ ∃ F' G', One F' G' w' p (s.remove k).1 ∧ Moved F G F' G' w w' := by
  obtain ⟨own, R, ⟨mf, mn, ms, fb, vs, vw, ss, ws, e, h1, rfl⟩, h2, h3⟩ := h
  exact (Remove_any h1 hk hok hN).mono fun e w' ⟨k1, k2⟩ => ⟨k1, One.turn h2 h3 k2⟩
theorem One.copy (h : One F G w p s) (hok : s.Ok N) (hN : N < maxList) :
    Calls Tryz.prog 55 #[.pointer (some ⟨p, 0, none⟩)] w fun e w' => ∃ po F' G', e = .returned (.pointer (some ⟨po, 0, none⟩)) ∧ One F' G' w' po s ∧ (∀ b, F' b → w.heap.size ≤ b) ∧ (∀ b, G' b → G b ∨ w.heap.size ≤ b) ∧ Below w.heap.size w w' := by
  obtain ⟨own, R, ⟨mf, mn, ms, fb, vs, vw, ss, ws, e, h1, rfl⟩, h2, h3⟩ := h
  exact (Copy_any h1 hok hN).mono fun e w' ⟨po, own', k1, k2, k3, k4⟩ => ⟨po, fun b => b ∈ own', RNew R w w' own', k1, ⟨own', _, k2, fun _ => Iff.rfl, fun _ => Iff.rfl⟩, k3, fun b hb => hb.elim (fun h => .inl ((h3 b).2 h)) (fun h => .inr h.1), k4⟩
end
/-- a disk of files, new -/
theorem One.of {w w' : World} {p : Nat} {s : DSt} {own : List Nat} {R : Nat → Prop} (h : DiskAt w' p s own R) (ho : ∀ b ∈ own, w.heap.size ≤ b) (hR : ∀ b, R b → w.heap.size ≤ b) : ∃ F G, One F G w' p s ∧ (∀ b, F b → w.heap.size ≤ b ∧ b < w'.heap.size) ∧ ∀ b, G b → w.heap.size ≤ b ∧ b < w'.heap.size := by
  have h1 : One (fun b => b ∈ own) R w' p s := ⟨own, R, h, fun _ => Iff.rfl, fun _ => Iff.rfl⟩
  exact ⟨_, _, h1, fun b hb => ⟨ho b hb, h1.lt.1 b hb⟩, fun b hb => ⟨hR b hb, h1.lt.2.1 b hb⟩⟩
/-- a step behind new memory -/
theorem Moved.after {F G F' G' : Nat → Prop} {w w1 w2 : World} (hb : Below w.heap.size w w1) (h : Moved F G F' G' w1 w2) : Moved F G F' G' w w2 :=
  ⟨(Chg.of_below hb).trans h.1 (fun _ h _ => h), fun b hb' => ⟨(h.2.1 b hb').1.imp id (fun k => Nat.le_trans hb.size k), (h.2.1 b hb').2⟩, fun b hb' => ⟨(h.2.2 b hb').1.imp id (fun k => Nat.le_trans hb.size k), (h.2.2 b hb').2⟩⟩

end Go.Proofs.YtlmdpcaikhdenaaGreat
/- Segment: step and Begin over the program's disk. -/
namespace Go.Proofs.YtlmdpcaikhdenaaGreat
open Go.RowKit Go.Maps

/-- the disk as a device -/
def devD (p : Nat) : Value := .iface 45 (.pointer (some ⟨p, 0, none⟩))
/-- a segment's name -/
def segName (f : Int) : List UInt8 := nameL 115 f.toNat 16
theorem segName_len (f : Int) : (segName f).length = 17 := nameL_len _ _ _
theorem sname_any {f : Int} (h0 : 0 ≤ f) (h1 : f ≤ 9223372036854775807) (w : World) : Calls Tryz.prog 84 #[.int .i64 f] w fun e w' => e = .returned (.tuple #[.string ⟨(segName f).toArray⟩, .int .i64 0]) ∧ Below w.heap.size w w' := by
  have h := Segment_any f w h1
  rw [nameAns, if_neg (by omega)] at h
  exact h
/-- a number that is no segment's: no step is done -/
theorem step_bad {w : World} {f : Int} (hf : f < 0 ∨ 4611686018427387904 < f) (h1 : f ≤ 9223372036854775807) (v dv : Value) :
    Calls Tryz.prog 45 #[v, .int .i64 f, dv] w fun e w' => e = .returned (.int .i64 4) ∧ Below w.heap.size w w' := by
  by_cases h0 : f < 0
  · have h : Calls Tryz.prog 84 #[.int .i64 f] w fun e w' => e = .returned (.tuple #[.string ⟨#[]⟩, .int .i64 4]) ∧ Below w.heap.size w w' := by
      have h := Segment_any f w h1
      rw [nameAns, if_pos h0] at h
      exact h
    clear hf h1 h0
    go_enter Tryz.func45, Tryz.ntmps45
    go_wp2_with (go_at_call 84; refine h.mono ?_; rintro e w' ⟨rfl, hb⟩)
    go_ret
    exact ⟨rfl, hb⟩
  · have h := sname_any (by omega) h1 w
    have g1 : decide (4611686018427387904 < f) = true := by simp; omega
    clear hf h1 h0
    go_enter Tryz.func45, Tryz.ntmps45
    go_wp2_with (go_at_call 84; refine h.mono ?_; rintro e w' ⟨rfl, hb⟩)
    go_ret
    exact ⟨rfl, hb⟩
section
variable {F G : Nat → Prop} {w : World} {p : Nat} {s : DSt} {N : Nat}
set_option maxHeartbeats 2000000 in
theorem stepCreate_any (h : One F G w p s) {f : Int} (h0 : 0 ≤ f) (h1 : f ≤ 4611686018427387904) (hok : s.Ok N) (hN : N + 1 < maxList) :
    Calls Tryz.prog 45 #[devD p, .int .i64 f, .func (.method "Create") #[devD p] #[]] w fun e w' => e = .returned (.int .i64 ((s.create (segName f)).2 : Int)) ∧ ∃ F' G', One F' G' w' p (s.create (segName f)).1 ∧ Moved F G F' G' w w' := by
  have hn := sname_any h0 (by omega) w
  have hc : ∀ W, Below w.heap.size w W → Calls Tryz.prog 220 #[.pointer (some ⟨p, 0, none⟩), .string ⟨(segName f).toArray⟩] W fun e w' => e = .returned (.int .i64 ((s.create (segName f)).2 : Int)) ∧ ∃ F' G', One F' G' w' p (s.create (segName f)).1 ∧ Moved F G F' G' W w' := fun W hb => (h.below hb).create (by rw [segName_len]; decide) hok hN
  have HC := Lib.hid hc
  have g1 : decide (4611686018427387904 < f) = false := by simp; omega
  clear hc h0 h1 hN h hok
  generalize segName f = nm at *
  generalize (s.create nm).2 = er at *
  unfold devD
  go_enter Tryz.func45, Tryz.ntmps45
  go_wp2_with (first | (go_at_call 84; refine hn.mono ?_; rintro _ w1 ⟨rfl, hb1⟩) | (go_at_call 220; refine (HC.out _ hb1).mono ?_; rintro _ w2 ⟨rfl, hq⟩))
  go_ret
  obtain ⟨F', G', k1, k2⟩ := hq
  exact ⟨rfl, F', G', k1, k2.after hb1⟩
set_option maxHeartbeats 2000000 in
theorem begin_any (h : One F G w p s) {f : Int} (h0 : 0 ≤ f) (h1 : f ≤ 4611686018427387904) (hok : s.Ok N) (hN : N + 1 < maxList) :
    Calls Tryz.prog 17 #[devD p, .int .i64 f] w fun e w' => e = .returned (.int .i64 ((s.create (segName f)).2 : Int)) ∧ ∃ F' G', One F' G' w' p (s.create (segName f)).1 ∧ Moved F G F' G' w w' := by
  have hc := stepCreate_any h h0 h1 hok hN
  clear h0 h1 hok hN h
  unfold devD at *
  go_enter Tryz.func17, Tryz.ntmps17
  go_wp2_with (go_at_call 45; refine hc.mono ?_; rintro _ w1 ⟨rfl, hq⟩)
  go_ret
  exact ⟨rfl, hq⟩
end

end Go.Proofs.YtlmdpcaikhdenaaGreat
/- Segment: copied. -/
namespace Go.Proofs.YtlmdpcaikhdenaaGreat
open Go.RowKit Go.Maps

set_option maxRecDepth 100000 in
set_option maxHeartbeats 8000000 in
theorem copied_any {w : World} {a : Option Addr} {c : Nat} {L : List (List UInt8)} {f g z y : Int} (h : EntsAt w a L) (hl : L.length ≤ 1000000000) (hb : ∀ e ∈ L, e.length ≤ 140737488355328) :
    Calls Tryz.prog 46 #[.agg #[.int .i64 f, .slice a L.length c, .int .i64 g, .int .i64 z, .int .i64 y]] w fun e w' => ∃ es, e = .returned (.agg #[.int .i64 f, es, .int .i64 g, .int .i64 z, .int .i64 y]) ∧ EntIn (fun x => w.heap.size ≤ x) w' es L ∧ Below w.heap.size w w' := by
  have hmax : maxLen = 9223372036854775807 := rfl
  obtain ⟨i0, hi, hz0, hz1, hz2⟩ := info_parts Tryz.info26
  obtain ⟨w1, hw1⟩ : ∃ w1, (w.alloc (.cells #[.int .i64 f, .slice a L.length c, .int .i64 g, .int .i64 z, .int .i64 y] 42)).alloc (.cells #[.int .i64 0, .slice none 0 0, .int .i64 0, .int .i64 0, .int .i64 0] 42) = w1 := ⟨_, rfl⟩
  have hb1 : Below w.heap.size w w1 := by rw [← hw1]; exact (below_alloc w _).alloc (by simp) _
  have hz1' : w1.heap.size = w.heap.size + 2 := by rw [← hw1]; simp
  have hx0 : w1.heap[w.heap.size]? = some (.cells #[.int .i64 f, .slice a L.length c, .int .i64 g, .int .i64 z, .int .i64 y] 42 (0, 0)) := by rw [← hw1]; exact (Below.heap_alloc _ _ _ (by simp)).trans (World.alloc_heap_new w _)
  have hx1 : w1.heap[w.heap.size + 1]? = some (.cells #[.int .i64 0, .slice none 0 0, .int .i64 0, .int .i64 0, .int .i64 0] 42 (0, 0)) := by rw [← hw1]; have := World.alloc_heap_new (w.alloc (.cells #[.int .i64 f, .slice a L.length c, .int .i64 g, .int .i64 z, .int .i64 y] 42)) (.cells #[.int .i64 0, .slice none 0 0, .int .i64 0, .int .i64 0, .int .i64 0] 42); rwa [World.size_alloc] at this
  have hE := h.below hb1
  have p0 := cell_of_heap hx0 (i := 0) (v := .int .i64 f) (by rfl)
  have p1 := cell_of_heap hx0 (i := 1) (v := .slice a L.length c) (by rfl)
  have p2 := cell_of_heap hx0 (i := 2) (v := .int .i64 g) (by rfl)
  have p3 := cell_of_heap hx0 (i := 3) (v := .int .i64 z) (by rfl)
  have p4 := cell_of_heap hx0 (i := 4) (v := .int .i64 y) (by rfl)
  have HW := Lib.hid hw1
  have HZ := Lib.hid hz1'
  have HX0 := Lib.hid hx0
  have HX1 := Lib.hid hx1
  have HB1 := Lib.hid hb1
  have HE := Lib.hid hE
  have HLB := Lib.hid hb
  clear hw1 hz1' hx0 hx1 hb1 hE h hb
  go_enter Tryz.func46, Tryz.ntmps46
  go_wp2_with (rw [HW.out])
  clear p0 p1 p2 p3 p4
  go_loopw [9, 3] (fun i l wr => ∃ (k : Nat) (ea : Option Addr) (ec : Nat), k ≤ L.length ∧ i = .int .i64 k ∧ l = .slice ea k ec ∧ EntIn (fun x => w1.heap.size ≤ x) wr (.slice ea k ec) (L.take k) ∧ Below w1.heap.size w1 wr) (fun i _ _ => L.length - (RowKit.intOf i).toNat)
  case atStart => exact ⟨0, none, 0, by omega, rfl, rfl, by rw [List.take_zero]; exact EntIn.nil _ _, Below.refl _ _⟩
  case round =>
    obtain ⟨k, ea, ec, hk, rfl, rfl, hent, hbw⟩ := hrel
    by_cases hlt : k < L.length
    · obtain ⟨x, hx⟩ : ∃ x, L[k]? = some x := ⟨L[k]'hlt, by simp⟩
      obtain ⟨b1, o1, rfl, c1⟩ := (HE.out.below hbw) (fun e => by rw [e] at hlt; simp at hlt)
      obtain ⟨ua, uc, u1, r1, _, un⟩ := c1 k x hx
      have hxm : x ∈ L := List.mem_of_getElem? hx
      have hcl := bclone_any (c := uc) r1 un (HLB.out x hxm)
      have hts : L.take (k + 1) = L.take k ++ [x] := by rw [List.take_add_one, hx]; rfl
      have hkl : (L.take k).length = k := by simp; omega
      have j0 : (k : Int) < (L.length : Int) := by omega
      have HT := Lib.hid hts
      have HEN := Lib.hid hent
      have HBW := Lib.hid hbw
      have HKL := Lib.hid hkl
      have hka : k ≤ 1000000000 := by omega
      clear c1 hx hxm r1 un hts hent hbw hkl
      go_wp2_with (first
        | (go_at_call 48; refine hcl.mono ?_; rintro _ w4 ⟨U, rfl, hV, hb4⟩; obtain ⟨ta, tc, rfl, _⟩ := hV.row; obtain ⟨vs, s1, s2, s3, s4⟩ := HEN.out.below hb4; rw [HKL.out] at s1)
        | (at_builtin; refine wpList_append_own_at _ rfl (.tmp 13) (.tmp 16) 22 rfl 0 26 i0 (.slice none 0 0) 1 24 Tryz.underlying22 hi hz0 hz1 hz2 rfl (by decide) _ _ _ rfl (s1.alloc _) ⟨w4.heap.size, 0, none⟩ 1 1 [.slice ta x.length tc] rfl rfl (cell_one_new _ _ _) (by simp [Value.oneCell']) (by omega) (by omega) (Nat.zero_le _) ?_; intro v5 w5 r5 hg5 _ hat5; obtain ⟨ya, yc, rfl, _, _⟩ := RowAt.of_owns r5; have hgr : Grew (.slice ea k ec) (w4.alloc (.cells #[.slice ta x.length tc] 26)) (.slice ya (k + 1) yc) w5 := Grew.append hg5 hat5; have hgc : Chg (fun x => (Value.slice ea k ec).ownBlock = some x) w4 w5 := (Chg.alloc _ w4 _).trans hgr.1 (fun _ h _ => h)))
      go_roundw
      case rel =>
        have z1 := HBW.out.size
        have z4 := hb4.size
        refine ⟨k + 1, ya, yc, by omega, by go_num, rfl, ?_, ?_⟩
        · rw [HT.out]
          have hp := EntIn.push (R := fun x => w1.heap.size ≤ x) (L := L.take k) (by rw [HKL.out]; exact s1) s2 s3 s4 (hV.kept (R' := fun x => w1.heap.size ≤ x) (Chg.refl (fun _ => False) _) (fun _ _ h => h) (fun x hx => by omega)) (Chg.alloc _ w4 _) (v' := .slice ya (k + 1) yc) (w2 := w5) (by rw [HKL.out]; exact r5) hgr
            (fun b' cs fr hb' hcs => by
              obtain ⟨cs2, fr2, h2⟩ := ownsRow_ty (s1.alloc (.cells #[.slice ta x.length tc] 26)) hb'
              rw [h2] at hcs
              simp only [Option.some.injEq, Obj.cells.injEq] at hcs
              exact absurd hcs.2.1 (by decide))
            (fun x hx => by simp at hx; omega)
          exact hp
        · exact HBW.out.trans ((hb4.mono z1).trans (hgc.belowLo6 (by omega) (fun x hx => by have := s2 x hx; omega)))
      case measure => simp [RowKit.intOf]; omega
    · obtain rfl : k = L.length := by omega
      rw [List.take_length] at hent
      have hX0 := (hbw.block _ (heap_lt HX0.out)).trans HX0.out
      have hX1 := (hbw.block _ (heap_lt HX1.out)).trans HX1.out
      have p0 := cell_of_heap hX0 (i := 0) (v := .int .i64 f) (by rfl)
      have p1 := cell_of_heap hX0 (i := 1) (v := .slice a L.length c) (by rfl)
      have p2 := cell_of_heap hX0 (i := 2) (v := .int .i64 g) (by rfl)
      have p3 := cell_of_heap hX0 (i := 3) (v := .int .i64 z) (by rfl)
      have p4 := cell_of_heap hX0 (i := 4) (v := .int .i64 y) (by rfl)
      have pz1 := frozen_of_heap (i := 1) hX0
      have HEN := Lib.hid hent
      have HBW := Lib.hid hbw
      have q1 := heap_set_cells (i := 1) (.slice ea L.length ec) hX0
      have q1 : (wr.setCell ⟨w.heap.size, 1, none⟩ (.slice ea L.length ec)).heap[w.heap.size]? = some (.cells #[.int .i64 f, .slice ea L.length ec, .int .i64 g, .int .i64 z, .int .i64 y] 42 (0, 0)) := q1
      have s1 : Chg (· = w.heap.size) wr (wr.setCell ⟨w.heap.size, 1, none⟩ (.slice ea L.length ec)) := Chg.set _ rfl
      obtain ⟨X, hX⟩ : ∃ X, wr.setCell ⟨w.heap.size, 1, none⟩ (.slice ea L.length ec) = X := ⟨_, rfl⟩
      have hY1 := s1.obj hX1 (by omega)
      rw [hX] at q1 s1 hY1
      have HK := Lib.hid hY1
      have HS1 := Lib.hid s1
      clear hent hbw hlt
      go_upto_region 8 with fail
      clear hX
      have t0 := cell_of_heap q1 (i := 0) (v := .int .i64 f) (by rfl)
      have t1 := cell_of_heap q1 (i := 1) (v := .slice ea L.length ec) (by rfl)
      have t2 := cell_of_heap q1 (i := 2) (v := .int .i64 g) (by rfl)
      have t3 := cell_of_heap q1 (i := 3) (v := .int .i64 z) (by rfl)
      have t4 := cell_of_heap q1 (i := 4) (v := .int .i64 y) (by rfl)
      have r0 := cell_of_heap HK.out (i := 0) (v := .int .i64 0) (by rfl)
      have r1 := cell_of_heap HK.out (i := 1) (v := .slice none 0 0) (by rfl)
      have r2 := cell_of_heap HK.out (i := 2) (v := .int .i64 0) (by rfl)
      have r3 := cell_of_heap HK.out (i := 3) (v := .int .i64 0) (by rfl)
      have r4 := cell_of_heap HK.out (i := 4) (v := .int .i64 0) (by rfl)
      have rz0 := frozen_of_heap (i := 0) HK.out
      have rz1 := frozen_of_heap (i := 1) HK.out
      have rz2 := frozen_of_heap (i := 2) HK.out
      have rz3 := frozen_of_heap (i := 3) HK.out
      have rz4 := frozen_of_heap (i := 4) HK.out
      clear p0 p1 p2 p3 p4 pz1
      go_wp2
      obtain ⟨Y, hY, hyx, hcY⟩ := set5 (x := .int .i64 f) (y := .slice ea L.length ec) (z := .int .i64 g) (u := .int .i64 z) (v := .int .i64 y) HK.out
      rw [hY]
      have y0 := cell_of_heap hyx (i := 0) (v := .int .i64 f) (by rfl)
      have y1 := cell_of_heap hyx (i := 1) (v := .slice ea L.length ec) (by rfl)
      have y2 := cell_of_heap hyx (i := 2) (v := .int .i64 g) (by rfl)
      have y3 := cell_of_heap hyx (i := 3) (v := .int .i64 z) (by rfl)
      have y4 := cell_of_heap hyx (i := 4) (v := .int .i64 y) (by rfl)
      refine bodyPost_ret (v := .agg #[.int .i64 f, .slice ea L.length ec, .int .i64 g, .int .i64 z, .int .i64 y]) (by simp [results, Tryz.results46, go_sem, y0, y1, y2, y3, y4]) rfl ?_
      have hzz := HZ.out
      have hbr : Below w.heap.size w wr := HB1.out.trans (HBW.out.mono HB1.out.size)
      exact ⟨_, rfl, (HEN.out.kept (R' := fun x => w1.heap.size ≤ x) HS1.out (fun b hb e => by omega) (fun _ h => h)).kept hcY (fun b hb e => by omega) (fun b hb => by omega), Chg.ret (Chg.ret hbr (Nat.le_refl _) HS1.out) (Nat.le_succ _) hcY⟩

end Go.Proofs.YtlmdpcaikhdenaaGreat
/- Segment: the law's great. -/
namespace Go.Proofs.YtlmdpcaikhdenaaGreat
open Go.RowKit Go.Maps

/-- how many bytes entries have -/
def bytesL (L : List (List UInt8)) : Nat := (L.map List.length).foldl (· + ·) 0
theorem bytesL_snoc (L : List (List UInt8)) (e : List UInt8) : bytesL (L ++ [e]) = bytesL L + e.length := by simp [bytesL]
theorem bytesL_take (L : List (List UInt8)) (k : Nat) : bytesL (L.take k) ≤ bytesL L := by
  have h : ∀ (l : List Nat) (n : Nat), n ≤ l.foldl (· + ·) n := by
    intro l
    induction l with
    | nil => intro n; exact Nat.le_refl _
    | cons x r ih => intro n; exact Nat.le_trans (Nat.le_add_right n x) (ih (n + x))
  have e : bytesL L = ((L.drop k).map List.length).foldl (· + ·) (bytesL (L.take k)) := by
    unfold bytesL
    rw [← List.foldl_append, ← List.map_append, List.take_append_drop]
  rw [e]
  exact h _ _
/-- too many entries, or bytes -/
def greatL (L : List (List UInt8)) : Bool := decide (5000 < L.length) || decide (300000 < bytesL L)
set_option maxRecDepth 100000 in
set_option maxHeartbeats 4000000 in
theorem great17_any {w : World} {a : Option Addr} {c : Nat} {L : List (List UInt8)} (h : EntsAt w a L) (hl : L.length ≤ maxLen) (hb : ∀ e ∈ L, e.length ≤ 140737488355328) :
    Calls Tryz.prog 6 #[.slice a L.length c] w fun e w' => e = .returned (.bool (greatL L)) ∧ Below w.heap.size w w' := by
  have hmax : maxLen = 9223372036854775807 := rfl
  have HLB := Lib.hid hb
  have HE := Lib.hid h
  clear hb h
  go_enter Tryz.func6, Tryz.ntmps6
  go_wp2
  go_loopw [3, 4] (fun n i wr => ∃ k m : Nat, k ≤ L.length ∧ k ≤ 5001 ∧ i = .int .i64 k ∧ n = .int .i64 m ∧ m = bytesL (L.take k) ∧ w = wr ∧ m ≤ 140737488655328) (fun _ i _ => L.length - (RowKit.intOf i).toNat)
  case atStart => exact ⟨0, 0, by omega, by omega, rfl, rfl, rfl, rfl, by omega⟩
  case round =>
    obtain ⟨k, m, hk, hk5, rfl, rfl, hm, rfl, hmb⟩ := hrel
    have hmt := bytesL_take L k
    rw [← hm] at hmt
    have HM := Lib.hid hm
    clear hm
    by_cases h1 : k < L.length
    · have j0 : (k : Int) < (L.length : Int) := by omega
      by_cases h2 : k ≤ 5000
      · have g2 : decide ((k : Int) ≤ 5000) = true := by simp; omega
        by_cases h3 : m ≤ 300000
        · have g3 : decide ((m : Int) ≤ 300000) = true := by simp; omega
          obtain ⟨x, hx⟩ : ∃ x, L[k]? = some x := ⟨L[k]'h1, by simp⟩
          obtain ⟨b1, o1, rfl, c1⟩ := HE.out (fun e => by rw [e] at h1; simp at h1)
          obtain ⟨ua, uc, u1, _⟩ := c1 k x hx
          have hxb := HLB.out x (List.mem_of_getElem? hx)
          have hts : L.take (k + 1) = L.take k ++ [x] := by rw [List.take_add_one, hx]; rfl
          have HT := Lib.hid hts
          clear c1 hx hts
          go_wp2
          go_roundw
          case rel => exact ⟨k + 1, m + x.length, by omega, by omega, by go_num, by go_num, by rw [HT.out, bytesL_snoc, ← HM.out], by trivial, by omega⟩
          case measure => simp [RowKit.intOf]; omega
        · have g3 : decide ((m : Int) ≤ 300000) = false := by simp; omega
          have g4 : decide ((300000 : Int) < (m : Int)) = true := by simp; omega
          have hE : greatL L = true := by unfold greatL; rw [show decide (300000 < bytesL L) = true from by simp; omega, Bool.or_true]
          by_cases h5 : 5000 < L.length
          · have g5 : decide ((5000 : Int) < (L.length : Int)) = true := by simp; omega
            have HQ := Lib.hid hE
            clear hE
            go_wp2
            go_ret
            exact ⟨by rw [HQ.out]; rfl, Below.refl _ _⟩
          · have g5 : decide ((5000 : Int) < (L.length : Int)) = false := by simp; omega
            have HQ := Lib.hid hE
            clear hE
            go_wp2
            go_ret
            exact ⟨by rw [HQ.out]; rfl, Below.refl _ _⟩
      · have g2 : decide ((k : Int) ≤ 5000) = false := by simp; omega
        have g5 : decide ((5000 : Int) < (L.length : Int)) = true := by simp; omega
        have hE : greatL L = true := by unfold greatL; rw [show decide (5000 < L.length) = true from by simp; omega, Bool.true_or]
        have HQ := Lib.hid hE
        clear hE
        go_wp2
        go_ret
        exact ⟨by rw [HQ.out]; rfl, Below.refl _ _⟩
    · obtain rfl : k = L.length := by omega
      have HM2 : Hid (m = bytesL L) := Lib.hid (by rw [HM.out, List.take_length])
      by_cases h5 : 5000 < L.length
      · have g5 : decide ((5000 : Int) < (L.length : Int)) = true := by simp; omega
        have hE : greatL L = true := by unfold greatL; rw [show decide (5000 < L.length) = true from by simp; omega, Bool.true_or]
        have HQ := Lib.hid hE
        clear hE
        go_wp2
        go_ret
        exact ⟨by rw [HQ.out]; rfl, Below.refl _ _⟩
      · have g5 : decide ((5000 : Int) < (L.length : Int)) = false := by simp; omega
        have hE : greatL L = decide ((300000 : Int) < (m : Int)) := by unfold greatL; rw [← HM2.out, show decide (5000 < L.length) = false from by simp; omega, Bool.false_or]; simp; omega
        have HQ := Lib.hid hE
        clear hE
        go_wp2
        go_ret
        exact ⟨by rw [HQ.out]; rfl, Below.refl _ _⟩

end Go.Proofs.YtlmdpcaikhdenaaGreat
/- Wire: a list behind four bytes of length. -/
namespace Go.Proofs.YtlmdpcaikhdenaaGreat
open Go.RowKit Go.Maps

section
variable {F : Nat → Prop} {w w' : World} {p : Nat} {l : List UInt8}
set_option maxRecDepth 100000 in
set_option maxHeartbeats 4000000 in
theorem listW4_any (h : WrAt F w p l) (hl : l.length ≤ 140737400000000) {a : Option Addr} {c : Nat} {b : List UInt8} (hrow : RowAt w a (b.map bv)) (hnil : a = none → c = 0) (hoff : b ≠ [] → ∀ y, a = some y → ¬ F y.block) (hb : b.length ≤ 8388608) :
    Calls Tryz.prog 114 #[.pointer (some ⟨p, 0, none⟩), .int .i64 4, .slice a b.length c] w fun e w' => e = .returned (.int .i64 0) ∧ WrStep F w w' p (l ++ be 4 b.length ++ b) := by
  have hmax : maxLen = 9223372036854775807 := rfl
  obtain ⟨i0, hi, hz0, hz1, hz2⟩ := info_parts Tryz.info5
  obtain ⟨v, h1, h2, h3, h4⟩ := h
  obtain ⟨va, vc, rfl, _, _⟩ := RowAt.of_owns h2
  have c0 := cell_of_heap h1 (i := 0) (v := .slice va l.length vc) (by rfl)
  have hF := form_any h2 (by omega) (k := 4) (by omega) (x := b.length) (by omega)
  have hcv : IntKind.u64.wrap (b.length : Int) = (b.length : Int) := by rw [show IntKind.u64.wrap (b.length : Int) = (b.length : Int) % 18446744073709551616 from by simp [IntKind.wrap, IntKind.bits, IntKind.signed]]; omega
  have hsh : (b.length : Int) / 4294967296 = 0 := by omega
  have hpl := heap_lt h1
  have H4 := Lib.hid h4
  have H1 := Lib.hid h1
  have H2 := Lib.hid h2
  have HO := Lib.hid hoff
  clear h1 h4 hoff
  go_enter Tryz.func114, Tryz.ntmps114
  go_wp2_with (first
    | (go_at_call 155; refine hF.mono ?_; rintro _ w2 ⟨v2, rfl, hr2, hg2⟩; obtain ⟨wa, wc, rfl, _, _⟩ := RowAt.of_owns hr2; have hrow2 : RowAt w2 a (b.map bv) := hrow.chg hg2.1 (fun hne y e ho => HO.out (by simpa using hne) y e ((H4.out _).2 (.inr ho))))
    | (at_builtin; refine wpList_append_src_at _ rfl (.tmp 34) (.tmp 35) 26 rfl 0 5 i0 (.int .u8 0) 1 Tryz.underlying26 hi hz0 hz1 hz2 rfl _ _ _ rfl hr2 a b.length c (b.map bv) rfl (by simp) hnil hrow2 (by intro u hu; obtain ⟨_, _, rfl⟩ := List.mem_map.1 hu; rfl) (by omega) (by omega) (Nat.zero_le _) ?_; intro v3 w3 hr3 hg3 hat3; obtain ⟨ya, yc, rfl, _, _⟩ := RowAt.of_owns hr3; have hgg := hg2.trans (Grew.append hg3 hat3); have hx3 := hgg.1.obj H1.out h3; have e0 := cell_of_heap hx3 (i := 0) (v := .slice va l.length vc) (by rfl); have z0 := frozen_of_heap (i := 0) hx3))
  go_ret
  exact ⟨rfl, WrAt.put (l := l) (l' := l ++ be 4 b.length ++ b) H1.out H2.out h3 H4.out (by rw [List.length_append, List.length_append, be_len, List.map_append, List.map_append]; exact hr3) hgg⟩
end

end Go.Proofs.YtlmdpcaikhdenaaGreat
/- Record: Put of records that may be. -/
namespace Go.Proofs.YtlmdpcaikhdenaaGreat
open Go.RowKit Go.Maps

/-- records as they are read: a slice of kinds with bodies -/
def RecsAt (w : World) (a : Option Addr) (L : List (UInt8 × List UInt8)) : Prop := L ≠ [] → ∃ b off, a = some ⟨b, off, none⟩ ∧ ∀ (i : Nat) d, L[i]? = some d →
  w.cell? ⟨b, off + i * 2, none⟩ = some (.int .u8 (d.1.toNat : Int)) ∧ ∃ ua uc, w.cell? ⟨b, off + i * 2 + 1, none⟩ = some (.slice ua d.2.length uc) ∧ RowAt w ua (d.2.map bv) ∧ (ua = none → uc = 0)
theorem RecsAt.below {w w' : World} {a : Option Addr} {L : List (UInt8 × List UInt8)} (h : RecsAt w a L) (hb : Below w.heap.size w w') : RecsAt w' a L := fun hL => by
  obtain ⟨b, off, e, hc⟩ := h hL
  refine ⟨b, off, e, fun i d hd => ?_⟩
  obtain ⟨h1, ua, uc, h2, h3, h4⟩ := hc i d hd
  exact ⟨(hb.cell (p := ⟨b, off + i * 2, none⟩) (cell_lt h1)).trans h1, ua, uc, (hb.cell (p := ⟨b, off + i * 2 + 1, none⟩) (cell_lt h2)).trans h2, h3.below hb, h4⟩
/-- the frames of records -/
def putL (L : List (UInt8 × List UInt8)) : List UInt8 := (L.map (fun d => frameL d.1 d.2)).flatten
theorem putL_snoc (L : List (UInt8 × List UInt8)) (d : UInt8 × List UInt8) : putL (L ++ [d]) = putL L ++ frameL d.1 d.2 := by simp [putL]
theorem putL_len_le (L : List (UInt8 × List UInt8)) (h : ∀ d ∈ L, d.2.length ≤ 8388608) : (putL L).length ≤ L.length * 8388617 := by
  induction L with
  | nil => simp [putL]
  | cons d r ih =>
    have h1 := ih (fun d hd => h d (List.mem_cons_of_mem _ hd))
    have h2 := h d List.mem_cons_self
    have h3 : putL (d :: r) = frameL d.1 d.2 ++ putL r := by simp [putL]
    rw [h3, List.length_append, frame_len, List.length_cons, Nat.add_mul]
    omega
/-- what the writer has written of a record -/
def headL (d : UInt8 × List UInt8) : List UInt8 := d.1 :: be 4 d.2.length ++ d.2
theorem frame_head (d : UInt8 × List UInt8) : frameL d.1 d.2 = headL d ++ ends (headL d) := rfl
theorem head_len (d : UInt8 × List UInt8) : (headL d).length = d.2.length + 5 := by simp [headL, be_len]; omega

end Go.Proofs.YtlmdpcaikhdenaaGreat
