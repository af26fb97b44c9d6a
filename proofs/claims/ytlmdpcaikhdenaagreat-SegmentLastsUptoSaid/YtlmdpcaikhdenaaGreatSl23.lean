/- Texts of this claim, one behind the other: DlI, DlM, DlN, RfB. -/
import Derived.Test.YtlmdpcaikhdenaaGreatSl22
import Derived.Test.YtlmdpcaikhdenaaGreatSl16
import Derived.Test.YtlmdpcaikhdenaaGreatSl14
import Derived.Test.YtlmdpcaikhdenaaGreatSl15
import Derived.Test.YtlmdpcaikhdenaaGreatSl21
import Derived.BigRegion
import Derived.Test.YtlmdpcaikhdenaaGreatSl17
import Derived.BigQuiet
import Derived.StillTailTactics
import Derived.Test.YtlmdpcaikhdenaaGreatSl18
import Derived.Maps.Ext
set_option linter.unusedSimpArgs false
set_option linter.unusedVariables false
/- Disk: the methods' contracts, of a disk whose blocks are new from lo on. -/
namespace Go.Proofs.YtlmdpcaikhdenaaGreat
open Go.RowKit Go.Maps

/-- the program's disk s lies at p, and writes no block below lo -/
def Has (lo : Nat) (w : World) (p : Nat) (s : DSt) : Prop := ∃ own R, DiskAt w p s own R ∧ ∀ b ∈ own, lo ≤ b
theorem DiskAt.p_mem {w : World} {p : Nat} {s : DSt} {own : List Nat} {R : Nat → Prop} (h : DiskAt w p s own R) : p ∈ own := by
  obtain ⟨mf, mn, ms, fb, vs, vw, ss, ws, e, h1, rfl⟩ := h
  exact mem_own_p
theorem DiskAt.own_lt {w : World} {p : Nat} {s : DSt} {own : List Nat} {R : Nat → Prop} (h : DiskAt w p s own R) {b : Nat} (hb : b ∈ own) : b < w.heap.size := by
  obtain ⟨mf, mn, ms, fb, vs, vw, ss, ws, e, h1, rfl⟩ := h
  exact (h1.own b hb).1
theorem DiskAt.shared {w : World} {p : Nat} {s : DSt} {own : List Nat} {R : Nat → Prop} (h : DiskAt w p s own R) {b : Nat} (hb : R b) : b < w.heap.size ∧ b ∉ own := by
  obtain ⟨mf, mn, ms, fb, vs, vw, ss, ws, e, h1, rfl⟩ := h
  exact h1.hR b hb
theorem DiskAt.below {w w' : World} {p : Nat} {s : DSt} {own : List Nat} {R : Nat → Prop} (h : DiskAt w p s own R) (hb : Below w.heap.size w w') : DiskAt w' p s own R := by
  obtain ⟨mf, mn, ms, fb, vs, vw, ss, ws, e, h1, rfl⟩ := h
  exact ⟨mf, mn, ms, fb, vs, vw, ss, ws, e, h1.below hb, rfl⟩
theorem Has.lo {lo : Nat} {w : World} {p : Nat} {s : DSt} (h : Has lo w p s) : lo ≤ p ∧ p < w.heap.size := by
  obtain ⟨own, R, h1, h2⟩ := h
  exact ⟨h2 p h1.p_mem, h1.own_lt h1.p_mem⟩
theorem Has.below {lo : Nat} {w w' : World} {p : Nat} {s : DSt} (h : Has lo w p s) (hb : Below w.heap.size w w') : Has lo w' p s := by
  obtain ⟨own, R, h1, h2⟩ := h
  exact ⟨own, R, h1.below hb, h2⟩
theorem Has.of_turns {lo : Nat} {w w' : World} {p : Nat} {s' : DSt} {own : List Nat} {R : Nat → Prop} (h2 : ∀ b ∈ own, lo ≤ b) (hlo : lo ≤ w.heap.size) (ht : Turns w w' p s' own R) : Has lo w' p s' ∧ Below lo w w' := by
  obtain ⟨own', k1, k2, k3⟩ := ht
  refine ⟨⟨own', _, k1, fun b hb => ?_⟩, ⟨k2.os, k2.tape, k2.output, k2.size, fun y hy => k2.block y (by omega) (fun hm => by have := h2 y hm; omega)⟩⟩
  rcases k3 b hb with h | h
  · exact h2 b h
  · omega
section
variable {lo : Nat} {w : World} {p : Nat} {s : DSt} {N : Nat}
theorem Has.create (h : Has lo w p s) {k : List UInt8} (hk : k.length ≤ maxLen) (hok : s.Ok N) (hN : N + 1 < maxList) :
    Calls Tryz.prog 220 #[.pointer (some ⟨p, 0, none⟩), .string ⟨k.toArray⟩] w fun e w' => e = .returned (.int .i64 ((s.create k).2 : Int)) ∧ Has lo w' p (s.create k).1 ∧ Below lo w w' := by
  have hlo := h.lo
  obtain ⟨own, R, ⟨mf, mn, ms, fb, vs, vw, ss, ws, e, h1, rfl⟩, h2⟩ := h
  exact (Create_any h1 hk hok (by omega)).mono fun e w' ⟨k1, k2⟩ => ⟨k1, Has.of_turns h2 (by omega) k2⟩
theorem Has.put (h : Has lo w p s) {k : List UInt8} (hk : k.length ≤ maxLen) {at_ : Int} {xa : Option Addr} {xc : Nat} {l : List UInt8} (hrow : RowAt w xa (l.map bv)) (hnil : xa = none → xc = 0) (hl : l.length ≤ 140737488355328) (h64 : -9223372036854775808 ≤ at_ ∧ at_ < 9223372036854775808) (hok : s.Ok N) (hN : N + 1 < maxList) :
    Calls Tryz.prog 226 #[.pointer (some ⟨p, 0, none⟩), .string ⟨k.toArray⟩, .int .i64 at_, .slice xa l.length xc] w fun e w' => e = .returned (.int .i64 ((s.put k at_ l).2 : Int)) ∧ Has lo w' p (s.put k at_ l).1 ∧ Below lo w w' := by
  have hlo := h.lo
  obtain ⟨own, R, ⟨mf, mn, ms, fb, vs, vw, ss, ws, e, h1, rfl⟩, h2⟩ := h
  exact (Write_any h1 hk hok hN hrow hnil hl h64).mono fun e w' ⟨k1, k2⟩ => ⟨k1, Has.of_turns h2 (by omega) k2⟩
theorem Has.cut (h : Has lo w p s) {k : List UInt8} (hk : k.length ≤ maxLen) {size : Int} (h64 : -9223372036854775808 ≤ size ∧ size < 9223372036854775808) (hok : s.Ok N) (hN : N + 1 < maxList) :
    Calls Tryz.prog 221 #[.pointer (some ⟨p, 0, none⟩), .string ⟨k.toArray⟩, .int .i64 size] w fun e w' => e = .returned (.int .i64 ((s.cut k size).2 : Int)) ∧ Has lo w' p (s.cut k size).1 ∧ Below lo w w' := by
  have hlo := h.lo
  obtain ⟨own, R, ⟨mf, mn, ms, fb, vs, vw, ss, ws, e, h1, rfl⟩, h2⟩ := h
  exact (Cut_any h1 hk hok hN h64).mono fun e w' ⟨k1, k2⟩ => ⟨k1, Has.of_turns h2 (by omega) k2⟩
theorem Has.sync (h : Has lo w p s) {k : List UInt8} (hk : k.length ≤ maxLen) (hok : s.Ok N) (hN : N + 1 < maxList) :
    Calls Tryz.prog 225 #[.pointer (some ⟨p, 0, none⟩), .string ⟨k.toArray⟩] w fun e w' => e = .returned (.int .i64 ((s.sync k).2 : Int)) ∧ Has lo w' p (s.sync k).1 ∧ Below lo w w' := by
  have hlo := h.lo
  obtain ⟨own, R, ⟨mf, mn, ms, fb, vs, vw, ss, ws, e, h1, rfl⟩, h2⟩ := h
  exact (Sync_any h1 hk hok hN).mono fun e w' ⟨k1, k2⟩ => ⟨k1, Has.of_turns h2 (by omega) k2⟩
theorem Has.syncNames (h : Has lo w p s)  (hok : s.Ok N) (hN : N + 1 < maxList) :
    Calls Tryz.prog 20 #[.pointer (some ⟨p, 0, none⟩)] w fun e w' => e = .returned (.int .i64 ((s.syncNames).2 : Int)) ∧ Has lo w' p (s.syncNames).1 ∧ Below lo w w' := by
  have hlo := h.lo
  obtain ⟨own, R, ⟨mf, mn, ms, fb, vs, vw, ss, ws, e, h1, rfl⟩, h2⟩ := h
  exact (SyncNames_any h1 hok hN).mono fun e w' ⟨k1, k2⟩ => ⟨k1, Has.of_turns h2 (by omega) k2⟩
theorem Has.remove (h : Has lo w p s) {k : List UInt8} (hk : k.length ≤ maxLen) (hok : s.Ok N) (hN : N + 1 < maxList) :
    Calls Tryz.prog 223 #[.pointer (some ⟨p, 0, none⟩), .string ⟨k.toArray⟩] w fun e w' => e = .returned (.int .i64 ((s.remove k).2 : Int)) ∧ Has lo w' p (s.remove k).1 ∧ Below lo w w' := by
  have hlo := h.lo
  obtain ⟨own, R, ⟨mf, mn, ms, fb, vs, vw, ss, ws, e, h1, rfl⟩, h2⟩ := h
  exact (Remove_any h1 hk hok hN).mono fun e w' ⟨k1, k2⟩ => ⟨k1, Has.of_turns h2 (by omega) k2⟩
theorem Has.read (h : Has lo w p s) {k : List UInt8} (hk : k.length ≤ maxLen) {at_ n : Int} (h64 : -9223372036854775808 ≤ at_ ∧ at_ < 9223372036854775808) (hok : s.Ok N) (hN : N < maxList) :
    Calls Tryz.prog 222 #[.pointer (some ⟨p, 0, none⟩), .string ⟨k.toArray⟩, .int .i64 at_, .int .i64 n] w fun e w' => ∃ U, e = .returned (.tuple #[U, .int .i64 ((s.read k at_ n).2 : Int)]) ∧ BytesIn w' (NewIn w w') U (s.read k at_ n).1 ∧ Below w.heap.size w w' := by
  obtain ⟨own, R, ⟨mf, mn, ms, fb, vs, vw, ss, ws, e, h1, rfl⟩, h2⟩ := h
  exact Read_any h1 hk hok hN h64
theorem Has.size (h : Has lo w p s) {k : List UInt8} (hk : k.length ≤ maxLen) (hok : s.Ok N) (hN : N < maxList) :
    Calls Tryz.prog 224 #[.pointer (some ⟨p, 0, none⟩), .string ⟨k.toArray⟩] w fun e w' => e = .returned (.tuple #[.int .i64 ((s.size k).1 : Int), .int .i64 ((s.size k).2 : Int)]) ∧ Below w.heap.size w w' := by
  obtain ⟨own, R, ⟨mf, mn, ms, fb, vs, vw, ss, ws, e, h1, rfl⟩, h2⟩ := h
  exact Size_any h1 hk hok hN
theorem Has.names (h : Has lo w p s)  (hok : s.Ok N) (hN : N < maxList) :
    Calls Tryz.prog 111 #[.pointer (some ⟨p, 0, none⟩)] w fun e w' => ∃ v, e = .returned (.tuple #[v, .int .i64 0]) ∧ w'.ownsRow w.heap.size 9 1 v s.names.length ((s.names.map (·.1)).map sv) ∧ Below w.heap.size w w' := by
  obtain ⟨own, R, ⟨mf, mn, ms, fb, vs, vw, ss, ws, e, h1, rfl⟩, h2⟩ := h
  exact Names_any h1 hok hN
theorem Has.files (h : Has lo w p s)  (hok : s.Ok N) (hN : N < maxList) :
    Calls Tryz.prog 32 #[.pointer (some ⟨p, 0, none⟩)] w fun e w' => ∃ v cs, e = .returned v ∧ FilesAt w' w.heap.size (w.heap.size + 1) v cs s.all ∧ Below w.heap.size w w' := by
  obtain ⟨own, R, ⟨mf, mn, ms, fb, vs, vw, ss, ws, e, h1, rfl⟩, h2⟩ := h
  exact Files_any h1 hok hN
theorem Has.stop (h : Has lo w p s) {names torn : Int} (htorn : torn < 9223372036854775808) {ka : Option Addr} {kc : Nat} {keep : List Bool} (hkrow : RowAt w ka (keep.map Value.bool)) (hkeep : keep.length ≤ maxLen) (hok : s.Ok N) (hN : N < maxList) :
    Calls Tryz.prog 23 #[.pointer (some ⟨p, 0, none⟩), .agg #[.int .i64 names, .slice ka keep.length kc, .int .i64 torn]] w fun e w' => ∃ po, e = .returned (.pointer (some ⟨po, 0, none⟩)) ∧ Has w.heap.size w' po (s.stop names keep torn) ∧ Below w.heap.size w w' := by
  obtain ⟨own, R, ⟨mf, mn, ms, fb, vs, vw, ss, ws, e, h1, rfl⟩, h2⟩ := h
  exact (Stop_any h1 hok hN htorn hkrow hkeep).mono fun e w' ⟨po, own', k1, k2, k3, k4⟩ => ⟨po, k1, ⟨own', _, k2, k3⟩, k4⟩
theorem Has.new {cap : Nat} (hc : cap ≤ 1099511627776) (w : World) : Calls Tryz.prog 16 #[.int .i64 (cap : Int)] w fun e w' => ∃ p, e = .returned (.tuple #[.pointer (some ⟨p, 0, none⟩), .int .i64 0]) ∧ Has w.heap.size w' p (DSt.empty cap) ∧ Below w.heap.size w w' :=
  (new_any hc w).mono fun e w' ⟨p, own, k1, k2, k3, k4⟩ => ⟨p, k1, ⟨own, _, k2, k3⟩, k4⟩
end

end Go.Proofs.YtlmdpcaikhdenaaGreat
/- Disk: Of, a new disk of files. -/
namespace Go.Proofs.YtlmdpcaikhdenaaGreat
open Go.RowKit Go.Maps Go.Shelf

/-- files that are handed in -/
def FilesArg (w : World) (a : Option Addr) (L : List (List UInt8 × List UInt8)) : Prop := L ≠ [] → ∃ b off, a = some ⟨b, off, none⟩ ∧ ∀ (i : Nat) d, L[i]? = some d →
  w.cell? ⟨b, off + i * 2, none⟩ = some (sv d.1) ∧ ∃ ua uc, w.cell? ⟨b, off + i * 2 + 1, none⟩ = some (.slice ua d.2.length uc) ∧ (ua = none → uc = 0) ∧ RowAt w ua (d.2.map bv)
theorem FilesArg.below {w w' : World} {a : Option Addr} {L : List (List UInt8 × List UInt8)} (h : FilesArg w a L) (hb : Below w.heap.size w w') : FilesArg w' a L := fun hL => by
  obtain ⟨b, off, e, hc⟩ := h hL
  refine ⟨b, off, e, fun i d hd => ?_⟩
  obtain ⟨h1, ua, uc, h2, h3, h4⟩ := hc i d hd
  exact ⟨(hb.cell (p := ⟨b, off + i * 2, none⟩) (cell_lt h1)).trans h1, ua, uc, (hb.cell (p := ⟨b, off + i * 2 + 1, none⟩) (cell_lt h2)).trans h2, h3, h4.below hb⟩


/-- names and numbers of files, in their order -/
def ofNames (l : List (List UInt8 × List UInt8)) : NL := l.zipIdx.map fun p => (p.1.1, p.2)
theorem ofNames_append (l : List (List UInt8 × List UInt8)) (x : List UInt8 × List UInt8) : ofNames (l ++ [x]) = ofNames l ++ [(x.1, l.length)] := by
  unfold ofNames
  rw [List.zipIdx_append, List.map_append]; simp
theorem ofNames_len (l : List (List UInt8 × List UInt8)) : (ofNames l).length = l.length := by simp [ofNames]
/-- may these files be handed in, as far as their names go? -/
def NamesGood (l : List (List UInt8 × List UInt8)) : Prop := l.Pairwise (fun p q => bytesBefore p.1 q.1 = true) ∧ ∀ p ∈ l, NameOk p.1
theorem NamesGood.nil : NamesGood [] := ⟨List.Pairwise.nil, fun p hp => by cases hp⟩
theorem NamesGood.push {l : List (List UInt8 × List UInt8)} {x y : List UInt8 × List UInt8} (h : NamesGood l) (hl : l.getLast? = some y) (hb : bytesBefore y.1 x.1 = true) (hx : NameOk x.1) : NamesGood (l ++ [x]) := by
  obtain ⟨h1, h2⟩ := h
  refine ⟨?_, fun p hp => ?_⟩
  · rw [List.pairwise_append]
    refine ⟨h1, List.pairwise_singleton _ _, fun a ha b hb' => ?_⟩
    simp at hb'
    subst hb'
    obtain ⟨r, rfl⟩ := List.getLast?_eq_some_iff.1 hl
    rcases List.mem_append.1 ha with ha | ha
    · exact before_trans ((List.pairwise_append.1 h1).2.2 a ha y (by simp)) hb
    · simp at ha; subst ha; exact hb
  · rcases List.mem_append.1 hp with hp | hp
    · exact h2 p hp
    · simp at hp; subst hp; exact hx
theorem NamesGood.one {x : List UInt8 × List UInt8} (hx : NameOk x.1) : NamesGood [x] := ⟨List.pairwise_singleton _ _, fun p hp => by simp at hp; subst hp; exact hx⟩
theorem NamesGood.take {l : List (List UInt8 × List UInt8)} (h : NamesGood l) (k : Nat) : NamesGood (l.take k) := ⟨h.1.sublist (List.take_sublist _ _), fun p hp => h.2 p (List.mem_of_mem_take hp)⟩
theorem ofNames_next {l : List (List UInt8 × List UInt8)} {k : Nat} {x : List UInt8 × List UInt8} (hx : l[k]? = some x) (hg : NamesGood (l.take (k + 1))) : nlPut (ofNames (l.take k)) x.1 k = ofNames (l.take (k + 1)) := by
  obtain ⟨hk, hx'⟩ := List.getElem?_eq_some_iff.1 hx
  have ht := List.take_succ_eq_append_getElem hk
  rw [hx'] at ht
  rw [ht, ofNames_append, List.length_take, Nat.min_eq_left (by omega)]
  refine nlPut_end fun p hp => ?_
  obtain ⟨_, q, hq, e⟩ := ofNames_mem hp
  rw [← e]
  rw [ht] at hg
  exact (List.pairwise_append.1 hg.1).2.2 q hq x (by simp)

/-- the new disk's maps behind k files -/
def OfAt (w w0 : World) (l : List (List UInt8 × List UInt8)) (mf mn po k : Nat) (wr : World) : Prop :=
  ∃ fb : List Nat, w0.heap.size ≤ wr.heap.size ∧ Below w.heap.size w wr ∧ Chg (fun b => b = mf ∨ b = mn) w0 wr ∧ wr.ownsMap Tryz.prog 3 ptrElem mf fb.length (filesD fb) ∧ fb.length = k ∧
    wr.ownsMap Tryz.prog 9 (plainElem Tryz.prog 3) mn k (nameD (ofNames (l.take k))) ∧ (∀ (i : Nat) b q, fb[i]? = some b → l[i]? = some q → FileIn wr (fun b => w0.heap.size ≤ b ∧ b < wr.heap.size ∧ b ∉ fb) b (q.2, q.2)) ∧ (∀ b ∈ fb, w0.heap.size ≤ b ∧ b < wr.heap.size) ∧ fb.Nodup
theorem OfAt.step {w w0 wr : World} {l : List (List UInt8 × List UInt8)} {mf mn po k : Nat} (h : OfAt w w0 l mf mn po k wr) {x : List UInt8 × List UInt8} (hx : l[k]? = some x) (hg : NamesGood (l.take (k + 1))) (hk : k < 8388608) (hne : mf ≠ mn) (hww : w.heap.size ≤ w0.heap.size) (hmf : w.heap.size ≤ mf) (hmn : w.heap.size ≤ mn)
    (hmf0 : mf < w0.heap.size) (hmn0 : mn < w0.heap.size) (hx64 : x.1.length ≤ maxLen)
    {w1 : World} (hb1 : Below wr.heap.size wr w1) {u : Value} (hu : BytesIn w1 (NewIn wr w1) u x.2) (t : TypeId) :
    ∃ w2 w3, (Instr.mapUpdate 107 (.map (some mf)) (.int .i64 (k : Int)) (.pointer (some ⟨w1.heap.size, 0, none⟩))).run Tryz.prog (w1.alloc (.cells #[u, u] t)) = .ok () w2 ∧
      (Instr.mapUpdate 109 (.map (some mn)) (.string ⟨x.1.toArray⟩) (.int .i64 (k : Int))).run Tryz.prog w2.drew = .ok () w3 ∧ Chg (fun b => b = mf ∨ b = mn) w1 w2 ∧ OfAt w w0 l mf mn po (k + 1) w3 := by
  have hmax : maxLen = 9223372036854775807 := rfl
  obtain ⟨fb, a1, a2, a3, a4, a5, a6, a7, a8, a9⟩ := h
  have hcA : Chg (fun b => b = mf ∨ b = mn) wr w1 := Chg.of_below hb1
  have hcB : Chg (fun b => b = mf ∨ b = mn) w1 (w1.alloc (.cells #[u, u] t)) := Chg.alloc _ _ _
  have hs1 := hcA.size
  have hmf2 : (w1.alloc (.cells #[u, u] t)).ownsMap Tryz.prog 3 ptrElem mf fb.length (filesD fb) := (Chg.alloc (fun _ => False) w1 (.cells #[u, u] t)).map ((Chg.of_below (O := fun _ => False) hb1).map a4 (fun h => h)) (fun h => h)
  obtain ⟨w2, hr2, hm2, ht2⟩ := hmf2.store (int_keyed Tryz.underlying3) Tryz.underlying107 (by omega) (key := .int .i64 (k : Int)) (val := .pointer (some ⟨w1.heap.size, 0, none⟩)) (keyOf_int_mk Tryz.underlying3 (wf_i64 (by omega) (by omega))) (ptrElem_mk _)
  rw [← a5, filesD_put] at hm2
  have hcC : Chg (fun b => b = mf ∨ b = mn) (w1.alloc (.cells #[u, u] t)) w2 := Chg.turned ht2 (.inl rfl)
  have hmn2 : w2.ownsMap Tryz.prog 9 (plainElem Tryz.prog 3) mn k (nameD (ofNames (l.take k))) := (Chg.turned (O := (· = mf)) ht2 rfl).map ((Chg.alloc (fun _ => False) w1 (.cells #[u, u] t)).map ((Chg.of_below (O := fun _ => False) hb1).map a6 (fun h => h)) (fun h => h)) (fun e => hne e.symm)
  have hmn2d : w2.drew.ownsMap Tryz.prog 9 (plainElem Tryz.prog 3) mn k (nameD (ofNames (l.take k))) := (Chg.refl (fun _ => False) w2).drew.map hmn2 (fun h => h)
  obtain ⟨w3, hr3, hm3, ht3⟩ := hmn2d.store (string_keyed Tryz.underlying9) Tryz.underlying109 (by omega) (key := .string ⟨x.1.toArray⟩) (val := .int .i64 (k : Int)) (key_str hx64) (elem_int (by omega))
  rw [nameD_put, ofNames_next hx hg] at hm3
  have hcD : Chg (fun b => b = mf ∨ b = mn) w2 w3 := (Chg.refl (fun b => b = mf ∨ b = mn) w2).drew.trans (Chg.turned ht3 (.inr rfl)) (fun _ h _ => h)
  have hc12 : Chg (fun b => b = mf ∨ b = mn) w1 w2 := hcB.trans hcC (fun _ h _ => h)
  have hc13 : Chg (fun b => b = mf ∨ b = mn) w1 w3 := hc12.trans hcD (fun _ h _ => h)
  have hcr3 : Chg (fun b => b = mf ∨ b = mn) wr w3 := hcA.trans hc13 (fun _ h _ => h)
  have hc03 : Chg (fun b => b = mf ∨ b = mn) w0 w3 := a3.trans hcr3 (fun _ h _ => h)
  have hs2 : w1.heap.size < w2.heap.size := by
    have h1 := hcC.size
    have h2 : (w1.alloc (.cells #[u, u] t)).heap.size = w1.heap.size + 1 := World.size_alloc _ _
    omega
  have hs3 := hcD.size
  refine ⟨w2, w3, hr2, hr3, hc12, fb ++ [w1.heap.size], Nat.le_trans a1 hcr3.size, ⟨hc03.os.trans ?_, hc03.tape.trans ?_, hc03.output.trans ?_, by have := a2.size; omega, fun y hy => ?_⟩, hc03, ?_, by simp [a5], ?_, fun i b q hb hq => ?_, fun b hb => ?_, ?_⟩
  · exact (a3.os.symm.trans a2.os)
  · exact (a3.tape.symm.trans a2.tape)
  · exact (a3.output.symm.trans a2.output)
  · exact (hcr3.block y (by have := a2.size; omega) (by omega)).trans (a2.block y hy)
  · rw [List.length_append]
    exact (Chg.turned (O := (· = mn)) ht3 rfl).map ((Chg.refl (fun _ => False) w2).drew.map hm2 (fun h => h)) hne
  · exact hm3
  · by_cases hi : i < fb.length
    · rw [List.getElem?_append_left hi] at hb
      have h8 := a8 b (List.mem_of_getElem? hb)
      refine (a7 i b q hb hq).kept hcr3 (fun c hc => by omega) (fun c hc => ⟨hc.1, by omega, fun hm => ?_⟩) (by omega)
      rcases List.mem_append.1 hm with hm | hm
      · exact hc.2.2 hm
      · simp at hm; omega
    · obtain ⟨hi1, _⟩ := List.getElem?_eq_some_iff.1 hb
      simp at hi1
      obtain rfl : i = fb.length := by omega
      simp at hb
      subst hb
      rw [a5, hx] at hq
      obtain rfl := Option.some.inj hq
      have hbk : (w1.alloc (.cells #[u, u] t)).heap[w1.heap.size]? = some (.cells #[u, u] t (0, 0)) := World.alloc_heap_new w1 _
      have hub : BytesIn w3 (fun b => w0.heap.size ≤ b ∧ b < w3.heap.size ∧ b ∉ fb ++ [w1.heap.size]) u x.2 := hu.kept hc13 (fun c hc => by have := hc.1; omega) (fun c hc => ⟨by have := hc.1; omega, by have := hc.2; omega, fun hm => by
        have h1 := hc.1; have h2 := hc.2
        rcases List.mem_append.1 hm with hm | hm
        · have := a8 c hm; omega
        · simp at hm; omega⟩)
      exact ⟨t, u, u, hcD.obj (hcC.obj hbk (by omega)) (by omega), hub, hub⟩
  · rcases List.mem_append.1 hb with hb | hb
    · have := a8 b hb; omega
    · simp at hb; omega
  · rw [List.nodup_append]
    refine ⟨a9, by simp, fun a ha b hb => ?_⟩
    simp at hb
    have := a8 a ha
    omega

theorem OfAt.done {w w3 w12 w13 : World} {l : List (List UInt8 × List UInt8)} {mf mn po cap : Nat} {e : TypeId}
    (hcl : w3.heap[po]? = some (.cells #[.int .i64 (cap : Int), .map (some mf), .map (some mn), .map none, .slice none 0 0, .slice none 0 0, .int .i64 0] e (0, 0))) (h : OfAt w w3 l mf mn po l.length w12)
    (hm13 : w13.ownsMap Tryz.prog 9 (plainElem Tryz.prog 3) w12.heap.size l.length (nameD (ofNames l))) (hb13 : Below w12.heap.size w12 w13) (hmf : w.heap.size ≤ mf) (hmn : w.heap.size ≤ mn) (hpo : w.heap.size ≤ po) (hmf0 : mf < w3.heap.size) (hmn0 : mn < w3.heap.size) (hne : mf ≠ mn) (hpf : po ≠ mf) (hpn : po ≠ mn) :
    ∃ own, DiskAt (w13.setCell ⟨po, 3, none⟩ (.map (some w12.heap.size))) po (DSt.ofFiles cap l) own (fun b => w.heap.size ≤ b ∧ b < (w13.setCell ⟨po, 3, none⟩ (.map (some w12.heap.size))).heap.size ∧ b ∉ own) ∧ (∀ b ∈ own, w.heap.size ≤ b) ∧ Below w.heap.size w (w13.setCell ⟨po, 3, none⟩ (.map (some w12.heap.size))) := by
  obtain ⟨fb, a1, a2, a3, a4, a5, a6, a7, a8, a9⟩ := h
  rw [List.take_length] at a6
  have hplt := heap_lt hcl
  have hs3 := hb13.size
  have hm13l := hm13.lt
  have hcells13 := (hb13.block po (by omega)).trans (a3.obj hcl (by omega))
  have hcell := heap_set_cells (i := 3) (.map (some w12.heap.size)) hcells13
  have hc4 : Chg (fun b => b = po) w13 (w13.setCell ⟨po, 3, none⟩ (.map (some w12.heap.size))) := Chg.set _ rfl
  have hs4 : (w13.setCell ⟨po, 3, none⟩ (.map (some w12.heap.size))).heap.size = w13.heap.size := by simp [World.setCell]
  have hbf : Below w.heap.size w (w13.setCell ⟨po, 3, none⟩ (.map (some w12.heap.size))) := (a2.trans (hb13.mono a2.size)).setCell (p := ⟨po, 3, none⟩) hpo _
  generalize w13.setCell ⟨po, 3, none⟩ (.map (some w12.heap.size)) = w14 at *
  have hc34 : Chg (fun b => b = po) w12 w14 := (Chg.of_below (O := fun b => b = po) hb13).trans hc4 (fun _ h _ => h)
  have hws := hb13.size
  have hbw := a2.size
  have hmem : ∀ b, b ∈ ownL po mf mn (.slice none 0 0) (.slice none 0 0) fb → b = po ∨ b = mf ∨ b = mn ∨ b ∈ fb := fun b hb => by simpa [ownL, Value.ownBlock] using hb
  have hgE : ∀ b ∈ ownL po mf mn (.slice none 0 0) (.slice none 0 0) fb, w.heap.size ≤ b ∧ b < w14.heap.size := fun b hb => by
    rcases hmem b hb with rfl | rfl | rfl | h3
    · omega
    · omega
    · omega
    · have := a8 b h3; have := hb13.size; omega
  have hw3s : w.heap.size ≤ w3.heap.size := by omega
  have hnames : ∀ l : List (List UInt8 × List UInt8), (l.zipIdx.map fun p => (p.1.1, p.2)) = ofNames l := fun _ => rfl
  refine ⟨_, ⟨mf, mn, w12.heap.size, fb, .slice none 0 0, .slice none 0 0, [], [], e, ?_, rfl⟩, fun b hb => (hgE b hb).1, hbf⟩
  exact {
    cells := by simpa [DSt.ofFiles] using hcell
    filesM := hc34.map a4 (by omega)
    namesM := by
      have := hc34.map a6 (by omega)
      show w14.ownsMap _ _ _ mn (ofNames l).length (nameD (ofNames l))
      rw [ofNames_len]; exact this
    sureM := by
      have := hc4.map hm13 (by omega)
      show w14.ownsMap _ _ _ _ (ofNames l).length (nameD (ofNames l))
      rw [ofNames_len]; exact this
    count := by simpa [DSt.ofFiles] using a5
    file := fun i b d hb hd => by
      simp only [DSt.ofFiles, List.getElem?_map] at hd
      obtain ⟨q, hq, rfl⟩ := Option.map_eq_some_iff.1 hd
      have h8 := a8 b (List.mem_of_getElem? hb)
      refine (a7 i b q hb hq).kept hc34 (fun c hc => by omega) (fun c hc => ⟨by omega, by omega, fun hm => ?_⟩) (by omega)
      rcases hmem c hm with rfl | rfl | rfl | h3
      · omega
      · omega
      · omega
      · exact hc.2.2 h3
    stepsR := World.ownsRow_nil _ _ _ _
    step := fun i v x hv => by simp at hv
    writesR := World.ownsRow_nil _ _ _ _
    count4 := rfl
    write := fun i c x hc => by simp at hc
    apart := by
      have h8 : ∀ b ∈ fb, b ≠ po ∧ b ≠ mf ∧ b ≠ mn := fun b hb => by have := a8 b hb; omega
      simp only [ownL, Value.ownBlock, List.nodup_cons, List.mem_cons, List.mem_append, Option.toList_none, List.nil_append]
      grind
    own := fun b hb => ⟨(hgE b hb).2, fun h => h.2.2 hb⟩
    shared := fun b hb => hb.2.1
    sureR := ⟨by omega, by omega, fun hm => by
      rcases hmem _ hm with h3 | h3 | h3 | h3
      · omega
      · omega
      · omega
      · have := a8 _ h3; omega⟩ }

end Go.Proofs.YtlmdpcaikhdenaaGreat
/- Disk: Of, walked. -/
namespace Go.Proofs.YtlmdpcaikhdenaaGreat
open Go.RowKit Go.Maps Go.Shelf



end Go.Proofs.YtlmdpcaikhdenaaGreat
/- A map from files' numbers to pointers, filled in an order that nobody knows. -/
namespace Go.Proofs.YtlmdpcaikhdenaaGreat
open Go.RowKit Go.Maps

theorem ownsRow_at {w : World} {lo : Nat} {e : TypeId} {size : Nat} {v : Value} {n : Nat} {xs : List Value} (h : w.ownsRow lo e size v n xs) : ∃ a c, v = .slice a n c ∧ n ≤ c ∧ (a = none → c = 0) ∧ ∀ (i : Nat) u, xs[i]? = some u → ∃ g, a = some ⟨g, 0, none⟩ ∧ w.cell? ⟨g, i, none⟩ = some u := by
  rcases h.2 with ⟨rfl, rfl⟩ | ⟨g, cap, cur, rfl, _, hg, h1, _, _, ht⟩
  · exact ⟨none, 0, rfl, Nat.le_refl _, fun _ => rfl, fun i u hu => by have := h.1; simp at this; subst this; simp at hu⟩
  · refine ⟨_, cap, rfl, h1, (fun e => by cases e), fun i u hu => ⟨g, rfl, cell_of_heap hg ?_⟩⟩
    have : cur.toList[i]? = some u := by
      rw [← ht, List.getElem?_take] at hu
      split at hu
      · exact hu
      · cases hu
    simpa using this
/-- a map from numbers to the blocks g -/
def PtrMap (W : World) (m n : Nat) (g : Nat → Option Nat) : Prop :=
  ∃ D, W.ownsMap Tryz.prog 3 ptrElem m n D ∧ (∀ k : Lit, has D k = true → ∃ f : Nat, k = .int .i64 (f : Int)) ∧ (∀ f : Nat, has D (.int .i64 (f : Int)) = (g f).isSome) ∧ ∀ (f b : Nat), g f = some b → ∀ zd, D.atKey (.int .i64 (f : Int)) zd = .lit (.int .i64 (b : Int))
theorem PtrMap.of_chg {O : Nat → Prop} {W W' : World} {m n : Nat} {g : Nat → Option Nat} (h : PtrMap W m n g) (hc : Chg O W W') (hO : ¬ O m) : PtrMap W' m n g := by
  obtain ⟨D, h1, h2⟩ := h
  exact ⟨D, hc.map h1 hO, h2⟩
theorem PtrMap.made (w : World) : PtrMap (w.alloc (.map #[] 0)) w.heap.size 0 (fun _ => none) :=
  ⟨.map [], World.ownsMap_made w _ _ _, fun k h => (by cases h), fun _ => rfl, fun f b h => (by cases h)⟩
theorem PtrMap.mono {W : World} {m n n' : Nat} {g : Nat → Option Nat} (h : PtrMap W m n g) (hn : n ≤ n') : PtrMap W m n' g := by
  obtain ⟨D, h1, h2⟩ := h
  exact ⟨D, h1.mono hn, h2⟩
theorem PtrMap.store {W : World} {m n : Nat} {g : Nat → Option Nat} (h : PtrMap W m n g) (hn : n < maxLen) {f b : Nat} (hf : f < 9223372036854775808) :
    ∃ W', (Instr.mapUpdate 107 (.map (some m)) (.int .i64 (f : Int)) (.pointer (some ⟨b, 0, none⟩))).run Tryz.prog W = .ok () W' ∧ PtrMap W' m (n + 1) (fun x => if x = f then some b else g x) ∧ Chg (· = m) W W' := by
  obtain ⟨D, h1, h0, h2, h3⟩ := h
  obtain ⟨W', hr, hm, ht⟩ := h1.store (int_keyed Tryz.underlying3) Tryz.underlying107 hn (key_i64 hf) (ptrElem_mk b)
  refine ⟨W', hr, ?_, Chg.turned ht rfl⟩
  have hk : WideAt.IsKeyLit (.int .i64 (f : Int)) := trivial
  have hne : ∀ {x : Nat}, x ≠ f → (Lit.int .i64 (x : Int)) ≠ .int .i64 (f : Int) := fun hx e => hx (by simp at e; omega)
  refine ⟨_, hm, fun k hk' => ?_, fun x => ?_, fun x u hu => ?_⟩
  · by_cases hx : k = .int .i64 (f : Int)
    · exact ⟨f, hx⟩
    · rw [has_put_other hx] at hk'
      exact h0 k hk'
  · by_cases hx : x = f
    · subst hx; rw [has_put_same h1.isMap hk]; simp
    · rw [has_put_other (hne hx), h2]; simp [hx]
  · by_cases hx : x = f
    · subst hx
      simp at hu
      subst hu
      exact fun zd => atKey_put_same h1.isMap hk _ _
    · simp [hx] at hu
      exact fun zd => by rw [atKey_put_other (hne hx)]; exact h3 x u hu zd
theorem filesD_keys (fb : List Nat) {k : Lit} (h : has (filesD fb) k = true) : ∃ f : Nat, f < fb.length ∧ k = .int .i64 (f : Int) := by
  obtain ⟨p, hp, hs⟩ := List.any_eq_true.1 h
  obtain ⟨q, hq, rfl⟩ := List.mem_map.1 hp
  obtain ⟨_, h2, _⟩ := List.mem_zipIdx hq
  exact ⟨q.2, by simpa using h2, (WideAt.sameKey_eq hs).symm⟩
theorem filesD_has (fb : List Nat) (f : Nat) (hf : f < fb.length) : has (filesD fb) (.int .i64 (f : Int)) = true := by
  refine List.any_eq_true.2 ⟨fileE (fb[f], f), List.mem_map.2 ⟨(fb[f], f), ?_, rfl⟩, by simp [fileE, Lit.sameKey]⟩
  rw [List.mem_iff_getElem?]
  exact ⟨f, by rw [List.getElem?_zipIdx]; simp [hf]⟩
theorem filesD_canon {fb fb' : List Nat} (hl : fb'.length = fb.length) (h : Canon (filesD fb)) : Canon (filesD fb') := by
  obtain ⟨es, e, hp, hk⟩ := h
  unfold filesD at e
  simp only [DataW.map.injEq] at e
  subst e
  have keys : ∀ l : List Nat, (l.zipIdx.map fileE).map (·.1) = (List.range l.length).map (fun i : Nat => Lit.int .i64 (i : Int)) := fun l => by
    refine List.ext_getElem? fun i => ?_
    simp only [List.getElem?_map, List.getElem?_zipIdx]
    by_cases hi : i < l.length
    · simp [hi, fileE]
    · simp [hi]
  refine ⟨_, rfl, ?_, ?_⟩
  · have h1 : (((fb.zipIdx.map fileE).map (·.1)).Pairwise (fun p q => p.before q = true)) := List.pairwise_map.2 hp
    rw [keys, ← hl, ← keys] at h1
    exact List.pairwise_map.1 h1
  · intro p hp
    obtain ⟨q, hq, rfl⟩ := List.mem_map.1 hp
    trivial
/-- filled for all numbers: it is the files' map -/
theorem PtrMap.files {W : World} {m n : Nat} {g : Nat → Option Nat} (h : PtrMap W m n g) {fb fb' : List Nat} (hl : fb'.length = fb.length) (hc : Canon (filesD fb)) (hg : ∀ f, g f = fb'[f]?) : W.ownsMap Tryz.prog 3 ptrElem m n (filesD fb') := by
  obtain ⟨D, h1, h0, h2, h3⟩ := h
  have hD : D = filesD fb' := by
    refine Maps.ext (h1.canon (int_keyed Tryz.underlying3)) (filesD_canon hl hc) (fun k => ?_) (fun k z hk => ?_)
    · cases h4 : has D k with
      | true =>
        obtain ⟨f, rfl⟩ := h0 k h4
        rw [h2, hg] at h4
        have hf : f < fb'.length := by
          rcases Nat.lt_or_ge f fb'.length with h | h
          · exact h
          · rw [List.getElem?_eq_none h] at h4; cases h4
        exact (filesD_has fb' f hf).symm
      | false =>
        cases h5 : has (filesD fb') k with
        | false => rfl
        | true =>
          obtain ⟨f, hf, rfl⟩ := filesD_keys fb' h5
          rw [h2, hg] at h4
          simp [hf] at h4
    · obtain ⟨f, rfl⟩ := h0 k hk
      rw [h2, hg] at hk
      have hf : f < fb'.length := by
        rcases Nat.lt_or_ge f fb'.length with h | h
        · exact h
        · rw [List.getElem?_eq_none h] at hk; cases hk
      rw [h3 f fb'[f] (by rw [hg]; simp [hf]) z, filesD_at fb' f hf]
  rw [← hD]
  exact h1
/-- an element of the files' map is a pointer -/
theorem ptrElem_some {v : Value} {y : DataW Unit × List MemPlace} (h : ptrElem v = some y) : ∃ x : Option Nat, v = .pointer (x.map fun b => ⟨b, 0, none⟩) := by
  unfold ptrElem at h
  split at h
  · rename_i b; exact ⟨some b, rfl⟩
  · exact ⟨none, rfl⟩
  · cases h

end Go.Proofs.YtlmdpcaikhdenaaGreat
