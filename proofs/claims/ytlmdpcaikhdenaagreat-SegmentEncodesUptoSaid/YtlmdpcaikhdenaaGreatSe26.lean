/- Texts of this claim, one behind the other: DlI, DlM, DlN. -/
import Derived.Test.YtlmdpcaikhdenaaGreatSe25
import Derived.Test.YtlmdpcaikhdenaaGreatSe20
import Derived.Test.YtlmdpcaikhdenaaGreatSe14
import Derived.Test.YtlmdpcaikhdenaaGreatSe15
import Derived.Test.YtlmdpcaikhdenaaGreatSe24
import Derived.BigRegion
import Derived.Test.YtlmdpcaikhdenaaGreatSe21
import Derived.BigQuiet
import Derived.StillTailTactics
set_option linter.unusedSimpArgs false
set_option linter.unusedVariables false
/- Disk: the methods' contracts, of a disk whose blocks are new from lo on. -/
namespace Go.Proofs.YtlmdpcaikhdenaaGreat
open Go.RowKit Go.Maps

/-- the program's disk s lies at p, and writes no block below lo -/
def Has (lo : Nat) (w : World) (p : Nat) (s : DSt) : Prop := ∃ own R, DiskAt w p s own R ∧ ∀ b ∈ own, lo ≤ b
theorem DiskAt.p_mem {w : World} {p : Nat} {s : DSt} {own : List Nat} {R : Nat → Prop} (h : DiskAt w p s own R) : p ∈ own := by
  obtain ⟨mf, mn, ms, fb, vs, vw, ss, ws, e, h1, rfl⟩ := h
  exact mem_own_p
theorem DiskAt.own_lt {w : World} {p : Nat} {s : DSt} {own : List Nat} {R : Nat → Prop} (h : DiskAt w p s own R) {b : Nat} (hb : b ∈ own) : b < w.heap.size := by
  obtain ⟨mf, mn, ms, fb, vs, vw, ss, ws, e, h1, rfl⟩ := h
  exact (h1.own b hb).1
theorem DiskAt.shared {w : World} {p : Nat} {s : DSt} {own : List Nat} {R : Nat → Prop} (h : DiskAt w p s own R) {b : Nat} (hb : R b) : b < w.heap.size ∧ b ∉ own := by
  obtain ⟨mf, mn, ms, fb, vs, vw, ss, ws, e, h1, rfl⟩ := h
  exact h1.hR b hb
theorem DiskAt.below {w w' : World} {p : Nat} {s : DSt} {own : List Nat} {R : Nat → Prop} (h : DiskAt w p s own R) (hb : Below w.heap.size w w') : DiskAt w' p s own R := by
  obtain ⟨mf, mn, ms, fb, vs, vw, ss, ws, e, h1, rfl⟩ := h
  exact ⟨mf, mn, ms, fb, vs, vw, ss, ws, e, h1.below hb, rfl⟩
theorem Has.lo {lo : Nat} {w : World} {p : Nat} {s : DSt} (h : Has lo w p s) : lo ≤ p ∧ p < w.heap.size := by
  obtain ⟨own, R, h1, h2⟩ := h
  exact ⟨h2 p h1.p_mem, h1.own_lt h1.p_mem⟩
theorem Has.below {lo : Nat} {w w' : World} {p : Nat} {s : DSt} (h : Has lo w p s) (hb : Below w.heap.size w w') : Has lo w' p s := by
  obtain ⟨own, R, h1, h2⟩ := h
  exact ⟨own, R, h1.below hb, h2⟩
theorem Has.of_turns {lo : Nat} {w w' : World} {p : Nat} {s' : DSt} {own : List Nat} {R : Nat → Prop} (h2 : ∀ b ∈ own, lo ≤ b) (hlo : lo ≤ w.heap.size) (ht : Turns w w' p s' own R) : Has lo w' p s' ∧ Below lo w w' := by
  obtain ⟨own', k1, k2, k3⟩ := ht
  refine ⟨⟨own', _, k1, fun b hb => ?_⟩, ⟨k2.os, k2.tape, k2.output, k2.size, fun y hy => k2.block y (by omega) (fun hm => by have := h2 y hm; omega)⟩⟩
  rcases k3 b hb with h | h
  · exact h2 b h
  · omega
section
variable {lo : Nat} {w : World} {p : Nat} {s : DSt} {N : Nat}
theorem Has.create (h : Has lo w p s) {k : List UInt8} (hk : k.length ≤ maxLen) (hok : s.Ok N) (hN : N + 1 < maxList) :
    Calls Tryz.prog 220 #[.pointer (some ⟨p, 0, none⟩), .string ⟨k.toArray⟩] w fun e w' => e = .returned (.int .i64 ((s.create k).2 : Int)) ∧ Has lo w' p (s.create k).1 ∧ Below lo w w' := by
  have hlo := h.lo
  obtain ⟨own, R, ⟨mf, mn, ms, fb, vs, vw, ss, ws, e, h1, rfl⟩, h2⟩ := h
  exact (Create_any h1 hk hok (by omega)).mono fun e w' ⟨k1, k2⟩ => ⟨k1, Has.of_turns h2 (by omega) k2⟩
theorem Has.put (h : Has lo w p s) {k : List UInt8} (hk : k.length ≤ maxLen) {at_ : Int} {xa : Option Addr} {xc : Nat} {l : List UInt8} (hrow : RowAt w xa (l.map bv)) (hnil : xa = none → xc = 0) (hl : l.length ≤ 140737488355328) (h64 : -9223372036854775808 ≤ at_ ∧ at_ < 9223372036854775808) (hok : s.Ok N) (hN : N + 1 < maxList) :
    Calls Tryz.prog 226 #[.pointer (some ⟨p, 0, none⟩), .string ⟨k.toArray⟩, .int .i64 at_, .slice xa l.length xc] w fun e w' => e = .returned (.int .i64 ((s.put k at_ l).2 : Int)) ∧ Has lo w' p (s.put k at_ l).1 ∧ Below lo w w' := by
  have hlo := h.lo
  obtain ⟨own, R, ⟨mf, mn, ms, fb, vs, vw, ss, ws, e, h1, rfl⟩, h2⟩ := h
  exact (Write_any h1 hk hok hN hrow hnil hl h64).mono fun e w' ⟨k1, k2⟩ => ⟨k1, Has.of_turns h2 (by omega) k2⟩
theorem Has.cut (h : Has lo w p s) {k : List UInt8} (hk : k.length ≤ maxLen) {size : Int} (h64 : -9223372036854775808 ≤ size ∧ size < 9223372036854775808) (hok : s.Ok N) (hN : N + 1 < maxList) :
    Calls Tryz.prog 221 #[.pointer (some ⟨p, 0, none⟩), .string ⟨k.toArray⟩, .int .i64 size] w fun e w' => e = .returned (.int .i64 ((s.cut k size).2 : Int)) ∧ Has lo w' p (s.cut k size).1 ∧ Below lo w w' := by
  have hlo := h.lo
  obtain ⟨own, R, ⟨mf, mn, ms, fb, vs, vw, ss, ws, e, h1, rfl⟩, h2⟩ := h
  exact (Cut_any h1 hk hok hN h64).mono fun e w' ⟨k1, k2⟩ => ⟨k1, Has.of_turns h2 (by omega) k2⟩
theorem Has.sync (h : Has lo w p s) {k : List UInt8} (hk : k.length ≤ maxLen) (hok : s.Ok N) (hN : N + 1 < maxList) :
    Calls Tryz.prog 225 #[.pointer (some ⟨p, 0, none⟩), .string ⟨k.toArray⟩] w fun e w' => e = .returned (.int .i64 ((s.sync k).2 : Int)) ∧ Has lo w' p (s.sync k).1 ∧ Below lo w w' := by
  have hlo := h.lo
  obtain ⟨own, R, ⟨mf, mn, ms, fb, vs, vw, ss, ws, e, h1, rfl⟩, h2⟩ := h
  exact (Sync_any h1 hk hok hN).mono fun e w' ⟨k1, k2⟩ => ⟨k1, Has.of_turns h2 (by omega) k2⟩
theorem Has.syncNames (h : Has lo w p s)  (hok : s.Ok N) (hN : N + 1 < maxList) :
    Calls Tryz.prog 20 #[.pointer (some ⟨p, 0, none⟩)] w fun e w' => e = .returned (.int .i64 ((s.syncNames).2 : Int)) ∧ Has lo w' p (s.syncNames).1 ∧ Below lo w w' := by
  have hlo := h.lo
  obtain ⟨own, R, ⟨mf, mn, ms, fb, vs, vw, ss, ws, e, h1, rfl⟩, h2⟩ := h
  exact (SyncNames_any h1 hok hN).mono fun e w' ⟨k1, k2⟩ => ⟨k1, Has.of_turns h2 (by omega) k2⟩
theorem Has.remove (h : Has lo w p s) {k : List UInt8} (hk : k.length ≤ maxLen) (hok : s.Ok N) (hN : N + 1 < maxList) :
    Calls Tryz.prog 223 #[.pointer (some ⟨p, 0, none⟩), .string ⟨k.toArray⟩] w fun e w' => e = .returned (.int .i64 ((s.remove k).2 : Int)) ∧ Has lo w' p (s.remove k).1 ∧ Below lo w w' := by
  have hlo := h.lo
  obtain ⟨own, R, ⟨mf, mn, ms, fb, vs, vw, ss, ws, e, h1, rfl⟩, h2⟩ := h
  exact (Remove_any h1 hk hok hN).mono fun e w' ⟨k1, k2⟩ => ⟨k1, Has.of_turns h2 (by omega) k2⟩
theorem Has.read (h : Has lo w p s) {k : List UInt8} (hk : k.length ≤ maxLen) {at_ n : Int} (h64 : -9223372036854775808 ≤ at_ ∧ at_ < 9223372036854775808) (hok : s.Ok N) (hN : N < maxList) :
    Calls Tryz.prog 222 #[.pointer (some ⟨p, 0, none⟩), .string ⟨k.toArray⟩, .int .i64 at_, .int .i64 n] w fun e w' => ∃ U, e = .returned (.tuple #[U, .int .i64 ((s.read k at_ n).2 : Int)]) ∧ BytesIn w' (NewIn w w') U (s.read k at_ n).1 ∧ Below w.heap.size w w' := by
  obtain ⟨own, R, ⟨mf, mn, ms, fb, vs, vw, ss, ws, e, h1, rfl⟩, h2⟩ := h
  exact Read_any h1 hk hok hN h64
theorem Has.size (h : Has lo w p s) {k : List UInt8} (hk : k.length ≤ maxLen) (hok : s.Ok N) (hN : N < maxList) :
    Calls Tryz.prog 224 #[.pointer (some ⟨p, 0, none⟩), .string ⟨k.toArray⟩] w fun e w' => e = .returned (.tuple #[.int .i64 ((s.size k).1 : Int), .int .i64 ((s.size k).2 : Int)]) ∧ Below w.heap.size w w' := by
  obtain ⟨own, R, ⟨mf, mn, ms, fb, vs, vw, ss, ws, e, h1, rfl⟩, h2⟩ := h
  exact Size_any h1 hk hok hN
theorem Has.names (h : Has lo w p s)  (hok : s.Ok N) (hN : N < maxList) :
    Calls Tryz.prog 111 #[.pointer (some ⟨p, 0, none⟩)] w fun e w' => ∃ v, e = .returned (.tuple #[v, .int .i64 0]) ∧ w'.ownsRow w.heap.size 9 1 v s.names.length ((s.names.map (·.1)).map sv) ∧ Below w.heap.size w w' := by
  obtain ⟨own, R, ⟨mf, mn, ms, fb, vs, vw, ss, ws, e, h1, rfl⟩, h2⟩ := h
  exact Names_any h1 hok hN
theorem Has.files (h : Has lo w p s)  (hok : s.Ok N) (hN : N < maxList) :
    Calls Tryz.prog 32 #[.pointer (some ⟨p, 0, none⟩)] w fun e w' => ∃ v cs, e = .returned v ∧ FilesAt w' w.heap.size (w.heap.size + 1) v cs s.all ∧ Below w.heap.size w w' := by
  obtain ⟨own, R, ⟨mf, mn, ms, fb, vs, vw, ss, ws, e, h1, rfl⟩, h2⟩ := h
  exact Files_any h1 hok hN
theorem Has.stop (h : Has lo w p s) {names torn : Int} (htorn : torn < 9223372036854775808) {ka : Option Addr} {kc : Nat} {keep : List Bool} (hkrow : RowAt w ka (keep.map Value.bool)) (hkeep : keep.length ≤ maxLen) (hok : s.Ok N) (hN : N < maxList) :
    Calls Tryz.prog 23 #[.pointer (some ⟨p, 0, none⟩), .agg #[.int .i64 names, .slice ka keep.length kc, .int .i64 torn]] w fun e w' => ∃ po, e = .returned (.pointer (some ⟨po, 0, none⟩)) ∧ Has w.heap.size w' po (s.stop names keep torn) ∧ Below w.heap.size w w' := by
  obtain ⟨own, R, ⟨mf, mn, ms, fb, vs, vw, ss, ws, e, h1, rfl⟩, h2⟩ := h
  exact (Stop_any h1 hok hN htorn hkrow hkeep).mono fun e w' ⟨po, own', k1, k2, k3, k4⟩ => ⟨po, k1, ⟨own', _, k2, k3⟩, k4⟩
theorem Has.new {cap : Nat} (hc : cap ≤ 1099511627776) (w : World) : Calls Tryz.prog 16 #[.int .i64 (cap : Int)] w fun e w' => ∃ p, e = .returned (.tuple #[.pointer (some ⟨p, 0, none⟩), .int .i64 0]) ∧ Has w.heap.size w' p (DSt.empty cap) ∧ Below w.heap.size w w' :=
  (new_any hc w).mono fun e w' ⟨p, own, k1, k2, k3, k4⟩ => ⟨p, k1, ⟨own, _, k2, k3⟩, k4⟩
end
/-- a slice that a literal makes -/
theorem row_built (w : World) (cs : Array Value) (t : TypeId) : RowAt (w.alloc (.cells cs t)) (some ⟨w.heap.size, 0, none⟩) cs.toList := fun _ => ⟨w.heap.size, 0, rfl, fun j u hu => by rw [Nat.zero_add]; exact cell_new w cs t j u (by simpa using hu)⟩

end Go.Proofs.YtlmdpcaikhdenaaGreat
/- Disk: Of, a new disk of files. -/
namespace Go.Proofs.YtlmdpcaikhdenaaGreat
open Go.RowKit Go.Maps Go.Shelf

/-- files that are handed in -/
def FilesArg (w : World) (a : Option Addr) (L : List (List UInt8 × List UInt8)) : Prop := L ≠ [] → ∃ b off, a = some ⟨b, off, none⟩ ∧ ∀ (i : Nat) d, L[i]? = some d →
  w.cell? ⟨b, off + i * 2, none⟩ = some (sv d.1) ∧ ∃ ua uc, w.cell? ⟨b, off + i * 2 + 1, none⟩ = some (.slice ua d.2.length uc) ∧ (ua = none → uc = 0) ∧ RowAt w ua (d.2.map bv)
theorem FilesArg.below {w w' : World} {a : Option Addr} {L : List (List UInt8 × List UInt8)} (h : FilesArg w a L) (hb : Below w.heap.size w w') : FilesArg w' a L := fun hL => by
  obtain ⟨b, off, e, hc⟩ := h hL
  refine ⟨b, off, e, fun i d hd => ?_⟩
  obtain ⟨h1, ua, uc, h2, h3, h4⟩ := hc i d hd
  exact ⟨(hb.cell (p := ⟨b, off + i * 2, none⟩) (cell_lt h1)).trans h1, ua, uc, (hb.cell (p := ⟨b, off + i * 2 + 1, none⟩) (cell_lt h2)).trans h2, h3, h4.below hb⟩
theorem FilesArg.rd {w : World} {a : Option Addr} {L : List (List UInt8 × List UInt8)} (h : FilesArg w a L) : FilesRd w a L := fun hL => by
  obtain ⟨b, off, e, hc⟩ := h hL
  refine ⟨b, off, e, fun i d hd => ?_⟩
  obtain ⟨h1, ua, uc, h2, h3, h4⟩ := hc i d hd
  exact ⟨h1, ua, uc, h2, h4⟩

theorem less_eq : ∀ a b : List UInt8, Op.bytesLess a b = bytesBefore a b
  | [], [] => rfl
  | [], _ :: _ => rfl
  | _ :: _, [] => rfl
  | a :: r, b :: s => by simp only [Op.bytesLess, bytesBefore, less_eq r s]

/-- names and numbers of files, in their order -/
def ofNames (l : List (List UInt8 × List UInt8)) : NL := l.zipIdx.map fun p => (p.1.1, p.2)
theorem ofNames_append (l : List (List UInt8 × List UInt8)) (x : List UInt8 × List UInt8) : ofNames (l ++ [x]) = ofNames l ++ [(x.1, l.length)] := by
  unfold ofNames
  rw [List.zipIdx_append, List.map_append]; simp
theorem ofNames_len (l : List (List UInt8 × List UInt8)) : (ofNames l).length = l.length := by simp [ofNames]
/-- may these files be handed in, as far as their names go? -/
def NamesGood (l : List (List UInt8 × List UInt8)) : Prop := l.Pairwise (fun p q => bytesBefore p.1 q.1 = true) ∧ ∀ p ∈ l, NameOk p.1
theorem NamesGood.nil : NamesGood [] := ⟨List.Pairwise.nil, fun p hp => by cases hp⟩
theorem NamesGood.push {l : List (List UInt8 × List UInt8)} {x y : List UInt8 × List UInt8} (h : NamesGood l) (hl : l.getLast? = some y) (hb : bytesBefore y.1 x.1 = true) (hx : NameOk x.1) : NamesGood (l ++ [x]) := by
  obtain ⟨h1, h2⟩ := h
  refine ⟨?_, fun p hp => ?_⟩
  · rw [List.pairwise_append]
    refine ⟨h1, List.pairwise_singleton _ _, fun a ha b hb' => ?_⟩
    simp at hb'
    subst hb'
    obtain ⟨r, rfl⟩ := List.getLast?_eq_some_iff.1 hl
    rcases List.mem_append.1 ha with ha | ha
    · exact before_trans ((List.pairwise_append.1 h1).2.2 a ha y (by simp)) hb
    · simp at ha; subst ha; exact hb
  · rcases List.mem_append.1 hp with hp | hp
    · exact h2 p hp
    · simp at hp; subst hp; exact hx
theorem NamesGood.one {x : List UInt8 × List UInt8} (hx : NameOk x.1) : NamesGood [x] := ⟨List.pairwise_singleton _ _, fun p hp => by simp at hp; subst hp; exact hx⟩
theorem NamesGood.take {l : List (List UInt8 × List UInt8)} (h : NamesGood l) (k : Nat) : NamesGood (l.take k) := ⟨h.1.sublist (List.take_sublist _ _), fun p hp => h.2 p (List.mem_of_mem_take hp)⟩
theorem ofNames_next {l : List (List UInt8 × List UInt8)} {k : Nat} {x : List UInt8 × List UInt8} (hx : l[k]? = some x) (hg : NamesGood (l.take (k + 1))) : nlPut (ofNames (l.take k)) x.1 k = ofNames (l.take (k + 1)) := by
  obtain ⟨hk, hx'⟩ := List.getElem?_eq_some_iff.1 hx
  have ht := List.take_succ_eq_append_getElem hk
  rw [hx'] at ht
  rw [ht, ofNames_append, List.length_take, Nat.min_eq_left (by omega)]
  refine nlPut_end fun p hp => ?_
  obtain ⟨_, q, hq, e⟩ := ofNames_mem hp
  rw [← e]
  rw [ht] at hg
  exact (List.pairwise_append.1 hg.1).2.2 q hq x (by simp)

/-- the new disk's maps behind k files -/
def OfAt (w w0 : World) (l : List (List UInt8 × List UInt8)) (mf mn po k : Nat) (wr : World) : Prop :=
  ∃ fb : List Nat, w0.heap.size ≤ wr.heap.size ∧ Below w.heap.size w wr ∧ Chg (fun b => b = mf ∨ b = mn) w0 wr ∧ wr.ownsMap Tryz.prog 3 ptrElem mf fb.length (filesD fb) ∧ fb.length = k ∧
    wr.ownsMap Tryz.prog 9 (plainElem Tryz.prog 3) mn k (nameD (ofNames (l.take k))) ∧ (∀ (i : Nat) b q, fb[i]? = some b → l[i]? = some q → FileIn wr (fun b => w0.heap.size ≤ b ∧ b < wr.heap.size ∧ b ∉ fb) b (q.2, q.2)) ∧ (∀ b ∈ fb, w0.heap.size ≤ b ∧ b < wr.heap.size) ∧ fb.Nodup
theorem OfAt.step {w w0 wr : World} {l : List (List UInt8 × List UInt8)} {mf mn po k : Nat} (h : OfAt w w0 l mf mn po k wr) {x : List UInt8 × List UInt8} (hx : l[k]? = some x) (hg : NamesGood (l.take (k + 1))) (hk : k < 8388608) (hne : mf ≠ mn) (hww : w.heap.size ≤ w0.heap.size) (hmf : w.heap.size ≤ mf) (hmn : w.heap.size ≤ mn)
    (hmf0 : mf < w0.heap.size) (hmn0 : mn < w0.heap.size) (hx64 : x.1.length ≤ maxLen)
    {w1 : World} (hb1 : Below wr.heap.size wr w1) {u : Value} (hu : BytesIn w1 (NewIn wr w1) u x.2) (t : TypeId) :
    ∃ w2 w3, (Instr.mapUpdate 107 (.map (some mf)) (.int .i64 (k : Int)) (.pointer (some ⟨w1.heap.size, 0, none⟩))).run Tryz.prog (w1.alloc (.cells #[u, u] t)) = .ok () w2 ∧
      (Instr.mapUpdate 109 (.map (some mn)) (.string ⟨x.1.toArray⟩) (.int .i64 (k : Int))).run Tryz.prog w2.drew = .ok () w3 ∧ Chg (fun b => b = mf ∨ b = mn) w1 w2 ∧ OfAt w w0 l mf mn po (k + 1) w3 := by
  have hmax : maxLen = 9223372036854775807 := rfl
  obtain ⟨fb, a1, a2, a3, a4, a5, a6, a7, a8, a9⟩ := h
  have hcA : Chg (fun b => b = mf ∨ b = mn) wr w1 := Chg.of_below hb1
  have hcB : Chg (fun b => b = mf ∨ b = mn) w1 (w1.alloc (.cells #[u, u] t)) := Chg.alloc _ _ _
  have hs1 := hcA.size
  have hmf2 : (w1.alloc (.cells #[u, u] t)).ownsMap Tryz.prog 3 ptrElem mf fb.length (filesD fb) := (Chg.alloc (fun _ => False) w1 (.cells #[u, u] t)).map ((Chg.of_below (O := fun _ => False) hb1).map a4 (fun h => h)) (fun h => h)
  obtain ⟨w2, hr2, hm2, ht2⟩ := hmf2.store (int_keyed Tryz.underlying3) Tryz.underlying107 (by omega) (key := .int .i64 (k : Int)) (val := .pointer (some ⟨w1.heap.size, 0, none⟩)) (keyOf_int_mk Tryz.underlying3 (wf_i64 (by omega) (by omega))) (ptrElem_mk _)
  rw [← a5, filesD_put] at hm2
  have hcC : Chg (fun b => b = mf ∨ b = mn) (w1.alloc (.cells #[u, u] t)) w2 := Chg.turned ht2 (.inl rfl)
  have hmn2 : w2.ownsMap Tryz.prog 9 (plainElem Tryz.prog 3) mn k (nameD (ofNames (l.take k))) := (Chg.turned (O := (· = mf)) ht2 rfl).map ((Chg.alloc (fun _ => False) w1 (.cells #[u, u] t)).map ((Chg.of_below (O := fun _ => False) hb1).map a6 (fun h => h)) (fun h => h)) (fun e => hne e.symm)
  have hmn2d : w2.drew.ownsMap Tryz.prog 9 (plainElem Tryz.prog 3) mn k (nameD (ofNames (l.take k))) := (Chg.refl (fun _ => False) w2).drew.map hmn2 (fun h => h)
  obtain ⟨w3, hr3, hm3, ht3⟩ := hmn2d.store (string_keyed Tryz.underlying9) Tryz.underlying109 (by omega) (key := .string ⟨x.1.toArray⟩) (val := .int .i64 (k : Int)) (key_str hx64) (elem_int (by omega))
  rw [nameD_put, ofNames_next hx hg] at hm3
  have hcD : Chg (fun b => b = mf ∨ b = mn) w2 w3 := (Chg.refl (fun b => b = mf ∨ b = mn) w2).drew.trans (Chg.turned ht3 (.inr rfl)) (fun _ h _ => h)
  have hc12 : Chg (fun b => b = mf ∨ b = mn) w1 w2 := hcB.trans hcC (fun _ h _ => h)
  have hc13 : Chg (fun b => b = mf ∨ b = mn) w1 w3 := hc12.trans hcD (fun _ h _ => h)
  have hcr3 : Chg (fun b => b = mf ∨ b = mn) wr w3 := hcA.trans hc13 (fun _ h _ => h)
  have hc03 : Chg (fun b => b = mf ∨ b = mn) w0 w3 := a3.trans hcr3 (fun _ h _ => h)
  have hs2 : w1.heap.size < w2.heap.size := by
    have h1 := hcC.size
    have h2 : (w1.alloc (.cells #[u, u] t)).heap.size = w1.heap.size + 1 := World.size_alloc _ _
    omega
  have hs3 := hcD.size
  refine ⟨w2, w3, hr2, hr3, hc12, fb ++ [w1.heap.size], Nat.le_trans a1 hcr3.size, ⟨hc03.os.trans ?_, hc03.tape.trans ?_, hc03.output.trans ?_, by have := a2.size; omega, fun y hy => ?_⟩, hc03, ?_, by simp [a5], ?_, fun i b q hb hq => ?_, fun b hb => ?_, ?_⟩
  · exact (a3.os.symm.trans a2.os)
  · exact (a3.tape.symm.trans a2.tape)
  · exact (a3.output.symm.trans a2.output)
  · exact (hcr3.block y (by have := a2.size; omega) (by omega)).trans (a2.block y hy)
  · rw [List.length_append]
    exact (Chg.turned (O := (· = mn)) ht3 rfl).map ((Chg.refl (fun _ => False) w2).drew.map hm2 (fun h => h)) hne
  · exact hm3
  · by_cases hi : i < fb.length
    · rw [List.getElem?_append_left hi] at hb
      have h8 := a8 b (List.mem_of_getElem? hb)
      refine (a7 i b q hb hq).kept hcr3 (fun c hc => by omega) (fun c hc => ⟨hc.1, by omega, fun hm => ?_⟩) (by omega)
      rcases List.mem_append.1 hm with hm | hm
      · exact hc.2.2 hm
      · simp at hm; omega
    · obtain ⟨hi1, _⟩ := List.getElem?_eq_some_iff.1 hb
      simp at hi1
      obtain rfl : i = fb.length := by omega
      simp at hb
      subst hb
      rw [a5, hx] at hq
      obtain rfl := Option.some.inj hq
      have hbk : (w1.alloc (.cells #[u, u] t)).heap[w1.heap.size]? = some (.cells #[u, u] t (0, 0)) := World.alloc_heap_new w1 _
      have hub : BytesIn w3 (fun b => w0.heap.size ≤ b ∧ b < w3.heap.size ∧ b ∉ fb ++ [w1.heap.size]) u x.2 := hu.kept hc13 (fun c hc => by have := hc.1; omega) (fun c hc => ⟨by have := hc.1; omega, by have := hc.2; omega, fun hm => by
        have h1 := hc.1; have h2 := hc.2
        rcases List.mem_append.1 hm with hm | hm
        · have := a8 c hm; omega
        · simp at hm; omega⟩)
      exact ⟨t, u, u, hcD.obj (hcC.obj hbk (by omega)) (by omega), hub, hub⟩
  · rcases List.mem_append.1 hb with hb | hb
    · have := a8 b hb; omega
    · simp at hb; omega
  · rw [List.nodup_append]
    refine ⟨a9, by simp, fun a ha b hb => ?_⟩
    simp at hb
    have := a8 a ha
    omega

theorem OfAt.done {w w3 w12 w13 : World} {l : List (List UInt8 × List UInt8)} {mf mn po cap : Nat} {e : TypeId}
    (hcl : w3.heap[po]? = some (.cells #[.int .i64 (cap : Int), .map (some mf), .map (some mn), .map none, .slice none 0 0, .slice none 0 0, .int .i64 0] e (0, 0))) (h : OfAt w w3 l mf mn po l.length w12)
    (hm13 : w13.ownsMap Tryz.prog 9 (plainElem Tryz.prog 3) w12.heap.size l.length (nameD (ofNames l))) (hb13 : Below w12.heap.size w12 w13) (hmf : w.heap.size ≤ mf) (hmn : w.heap.size ≤ mn) (hpo : w.heap.size ≤ po) (hmf0 : mf < w3.heap.size) (hmn0 : mn < w3.heap.size) (hne : mf ≠ mn) (hpf : po ≠ mf) (hpn : po ≠ mn) :
    ∃ own, DiskAt (w13.setCell ⟨po, 3, none⟩ (.map (some w12.heap.size))) po (DSt.ofFiles cap l) own (fun b => w.heap.size ≤ b ∧ b < (w13.setCell ⟨po, 3, none⟩ (.map (some w12.heap.size))).heap.size ∧ b ∉ own) ∧ (∀ b ∈ own, w.heap.size ≤ b) ∧ Below w.heap.size w (w13.setCell ⟨po, 3, none⟩ (.map (some w12.heap.size))) := by
  obtain ⟨fb, a1, a2, a3, a4, a5, a6, a7, a8, a9⟩ := h
  rw [List.take_length] at a6
  have hplt := heap_lt hcl
  have hs3 := hb13.size
  have hm13l := hm13.lt
  have hcells13 := (hb13.block po (by omega)).trans (a3.obj hcl (by omega))
  have hcell := heap_set_cells (i := 3) (.map (some w12.heap.size)) hcells13
  have hc4 : Chg (fun b => b = po) w13 (w13.setCell ⟨po, 3, none⟩ (.map (some w12.heap.size))) := Chg.set _ rfl
  have hs4 : (w13.setCell ⟨po, 3, none⟩ (.map (some w12.heap.size))).heap.size = w13.heap.size := by simp [World.setCell]
  have hbf : Below w.heap.size w (w13.setCell ⟨po, 3, none⟩ (.map (some w12.heap.size))) := (a2.trans (hb13.mono a2.size)).setCell (p := ⟨po, 3, none⟩) hpo _
  generalize w13.setCell ⟨po, 3, none⟩ (.map (some w12.heap.size)) = w14 at *
  have hc34 : Chg (fun b => b = po) w12 w14 := (Chg.of_below (O := fun b => b = po) hb13).trans hc4 (fun _ h _ => h)
  have hws := hb13.size
  have hbw := a2.size
  have hmem : ∀ b, b ∈ ownL po mf mn (.slice none 0 0) (.slice none 0 0) fb → b = po ∨ b = mf ∨ b = mn ∨ b ∈ fb := fun b hb => by simpa [ownL, Value.ownBlock] using hb
  have hgE : ∀ b ∈ ownL po mf mn (.slice none 0 0) (.slice none 0 0) fb, w.heap.size ≤ b ∧ b < w14.heap.size := fun b hb => by
    rcases hmem b hb with rfl | rfl | rfl | h3
    · omega
    · omega
    · omega
    · have := a8 b h3; have := hb13.size; omega
  have hw3s : w.heap.size ≤ w3.heap.size := by omega
  have hnames : ∀ l : List (List UInt8 × List UInt8), (l.zipIdx.map fun p => (p.1.1, p.2)) = ofNames l := fun _ => rfl
  refine ⟨_, ⟨mf, mn, w12.heap.size, fb, .slice none 0 0, .slice none 0 0, [], [], e, ?_, rfl⟩, fun b hb => (hgE b hb).1, hbf⟩
  exact {
    cells := by simpa [DSt.ofFiles] using hcell
    filesM := hc34.map a4 (by omega)
    namesM := by
      have := hc34.map a6 (by omega)
      show w14.ownsMap _ _ _ mn (ofNames l).length (nameD (ofNames l))
      rw [ofNames_len]; exact this
    sureM := by
      have := hc4.map hm13 (by omega)
      show w14.ownsMap _ _ _ _ (ofNames l).length (nameD (ofNames l))
      rw [ofNames_len]; exact this
    count := by simpa [DSt.ofFiles] using a5
    file := fun i b d hb hd => by
      simp only [DSt.ofFiles, List.getElem?_map] at hd
      obtain ⟨q, hq, rfl⟩ := Option.map_eq_some_iff.1 hd
      have h8 := a8 b (List.mem_of_getElem? hb)
      refine (a7 i b q hb hq).kept hc34 (fun c hc => by omega) (fun c hc => ⟨by omega, by omega, fun hm => ?_⟩) (by omega)
      rcases hmem c hm with rfl | rfl | rfl | h3
      · omega
      · omega
      · omega
      · exact hc.2.2 h3
    stepsR := World.ownsRow_nil _ _ _ _
    step := fun i v x hv => by simp at hv
    writesR := World.ownsRow_nil _ _ _ _
    count4 := rfl
    write := fun i c x hc => by simp at hc
    apart := by
      have h8 : ∀ b ∈ fb, b ≠ po ∧ b ≠ mf ∧ b ≠ mn := fun b hb => by have := a8 b hb; omega
      simp only [ownL, Value.ownBlock, List.nodup_cons, List.mem_cons, List.mem_append, Option.toList_none, List.nil_append]
      grind
    own := fun b hb => ⟨(hgE b hb).2, fun h => h.2.2 hb⟩
    shared := fun b hb => hb.2.1
    sureR := ⟨by omega, by omega, fun hm => by
      rcases hmem _ hm with h3 | h3 | h3 | h3
      · omega
      · omega
      · omega
      · have := a8 _ h3; omega⟩ }

end Go.Proofs.YtlmdpcaikhdenaaGreat
/- Disk: Of, walked. -/
namespace Go.Proofs.YtlmdpcaikhdenaaGreat
open Go.RowKit Go.Maps Go.Shelf

theorem good_bad_name {L : List (List UInt8 × List UInt8)} {k : Nat} {x : List UInt8 × List UInt8} (hx : L[k]? = some x) (h : nameOk x.1 = false) : ¬ NamesGood L := fun hg => by
  have := hg.2 x (List.mem_of_getElem? hx)
  rw [← nameOk_true this] at h
  cases h
theorem good_bad_pair {L : List (List UInt8 × List UInt8)} {k : Nat} {x y : List UInt8 × List UInt8} (hx : L[k + 1]? = some x) (hy : L[k]? = some y) (h : bytesBefore y.1 x.1 = false) : ¬ NamesGood L := fun hg => by
  obtain ⟨h1, rfl⟩ := List.getElem?_eq_some_iff.1 hx
  obtain ⟨h2, rfl⟩ := List.getElem?_eq_some_iff.1 hy
  rw [(List.pairwise_iff_getElem.1 hg.1) k (k + 1) h2 h1 (by omega)] at h
  cases h
theorem good_first {L : List (List UInt8 × List UInt8)} {x : List UInt8 × List UInt8} (hx : L[0]? = some x) (h : nameOk x.1 = true) : NamesGood (L.take (0 + 1)) := by
  obtain ⟨hk, hx'⟩ := List.getElem?_eq_some_iff.1 hx
  have ht := List.take_succ_eq_append_getElem hk
  rw [hx'] at ht
  rw [ht]
  exact NamesGood.one (nameOk_iff.1 h)
theorem good_next {L : List (List UInt8 × List UInt8)} {k : Nat} {x y : List UInt8 × List UInt8} (hg : NamesGood (L.take (k + 1))) (hx : L[k + 1]? = some x) (hy : L[k]? = some y) (h : nameOk x.1 = true) (hb : bytesBefore y.1 x.1 = true) : NamesGood (L.take (k + 1 + 1)) := by
  obtain ⟨hk, hx'⟩ := List.getElem?_eq_some_iff.1 hx
  obtain ⟨hk2, hy'⟩ := List.getElem?_eq_some_iff.1 hy
  have ht := List.take_succ_eq_append_getElem hk
  rw [hx'] at ht
  rw [ht]
  refine hg.push ?_ hb (nameOk_iff.1 h)
  rw [List.take_succ_eq_append_getElem hk2, hy']
  simp

set_option maxRecDepth 100000 in
set_option maxHeartbeats 8000000 in
theorem Of_any {cap : Nat} (hc : cap ≤ 1099511627776) {w : World} {a : Option Addr} {c : Nat} {L : List (List UInt8 × List UInt8)} (hA : FilesArg w a L) (hLn : L.length ≤ maxList) (hsz : ∀ p ∈ L, p.2.length ≤ 140737488355328) (hnm : ∀ p ∈ L, p.1.length ≤ maxLen) :
    Calls Tryz.prog 44 #[.int .i64 (cap : Int), .slice a L.length c] w fun e w' => ((NamesGood L ∧ ∃ p own, e = .returned (.tuple #[.pointer (some ⟨p, 0, none⟩), .int .i64 0]) ∧ DiskAt w' p (DSt.ofFiles cap L) own (fun b => w.heap.size ≤ b ∧ b < w'.heap.size ∧ b ∉ own) ∧ (∀ b ∈ own, w.heap.size ≤ b)) ∨
      (¬ NamesGood L ∧ e = .returned (.tuple #[.pointer none, .int .i64 2]))) ∧ Below w.heap.size w w' := by
  have hmx : maxList = 4194304 := rfl
  have hmax : maxLen = 9223372036854775807 := rfl
  have g1 : decide ((cap : Int) < 0) = false := by simp
  have g2 : decide (1099511627776 < (cap : Int)) = false := by simp; omega
  have hmk := fun t w => run_makeMap (P := Tryz.prog) t w
  obtain ⟨w3, hw3⟩ : ∃ w3, ((w.alloc (.map #[] 0)).alloc (.map #[] 0)).alloc (.cells #[.int .i64 (cap : Int), .map (some w.heap.size), .map (some (w.heap.size + 1)), .map none, .slice none 0 0, .slice none 0 0, .int .i64 0] 113) = w3 := ⟨_, rfl⟩
  have hb3 : Below w.heap.size w w3 := by rw [← hw3]; exact ((below_alloc w _).alloc (by simp) _).alloc (by simp; omega) _
  have hz3 : w3.heap.size = w.heap.size + 1 + 1 + 1 := by rw [← hw3]; simp
  have hfm : w3.ownsMap Tryz.prog 3 ptrElem w.heap.size 0 (filesD []) := by rw [← hw3]; exact ((World.ownsMap_made w _ _ _).alloc _).alloc _
  have hnmp : w3.ownsMap Tryz.prog 9 (plainElem Tryz.prog 3) (w.heap.size + 1) 0 (nameD []) := by rw [← hw3]; have := (World.ownsMap_made (w.alloc (.map #[] 0)) Tryz.prog 9 (plainElem (H := Unit) Tryz.prog 3)).alloc (.cells #[.int .i64 (cap : Int), .map (some w.heap.size), .map (some (w.heap.size + 1)), .map none, .slice none 0 0, .slice none 0 0, .int .i64 0] 113); rwa [World.size_alloc] at this
  have hcl : w3.heap[w.heap.size + 1 + 1]? = some (.cells #[.int .i64 (cap : Int), .map (some w.heap.size), .map (some (w.heap.size + 1)), .map none, .slice none 0 0, .slice none 0 0, .int .i64 0] 113 (0, 0)) := by rw [← hw3]; have := World.alloc_heap_new ((w.alloc (.map #[] 0)).alloc (.map #[] 0)) (.cells #[.int .i64 (cap : Int), .map (some w.heap.size), .map (some (w.heap.size + 1)), .map none, .slice none 0 0, .slice none 0 0, .int .i64 0] 113); rwa [World.size_alloc, World.size_alloc] at this
  have HZ := Lib.hid hz3; clear hz3
  go_enter Tryz.func44, Tryz.ntmps44
  go_wp2_with fail
  go_loopw [23] (fun i wr => ∃ k : Nat, k ≤ L.length ∧ i = .int .i64 k ∧ OfAt w w3 L w.heap.size (w.heap.size + 1) (w.heap.size + 1 + 1) k wr ∧ Hid (NamesGood (L.take k))) (fun i _ => L.length - (RowKit.intOf i).toNat)
  case atStart => exact ⟨0, by omega, rfl, ⟨[], Nat.le_refl _, hb3, Chg.refl _ _, hfm, rfl, hnmp, fun i b q hb => (by simp at hb), fun b hb => (by simp at hb), List.nodup_nil⟩, NamesGood.nil⟩
  case round =>
    obtain ⟨k, hk, rfl, hof, HG⟩ := hrel
    have hz3 := HZ.out
    have hof' := hof
    obtain ⟨fb, a1, a2, a3, a4, a5, a6, a7, a8, a9⟩ := hof'
    have hpr := a3.obj hcl (by omega)
    by_cases hlt : k < L.length
    · obtain ⟨x, hx⟩ : ∃ x, L[k]? = some x := ⟨L[k]'hlt, by simp⟩
      have hxm := List.mem_of_getElem? hx
      have hx1 := hnm x hxm
      have hx2 := hsz x hxm
      obtain ⟨ab, ao, rfl, hcells⟩ := (hA.below a2) (fun e => by rw [e] at hlt; simp at hlt)
      obtain ⟨n1, ua, uc, u1, hnil, hrow⟩ := hcells k x hx
      have HC := Lib.hid hcells; clear hcells
      unfold sv at n1
      have hname := fun w => Name_any x.1 w (by omega)
      obtain ⟨W2, hW2⟩ : ∃ W2, wr.alloc (.cells #[.string ⟨x.1.toArray⟩, .slice ua x.2.length uc] 156) = W2 := ⟨_, rfl⟩
      have hb2 : Below wr.heap.size wr W2 := by rw [← hW2]; exact below_alloc _ _
      have hbw : W2.heap[wr.heap.size]? = some (.cells #[.string ⟨x.1.toArray⟩, .slice ua x.2.length uc] 156 (0, 0)) := by rw [← hW2]; exact World.alloc_heap_new wr _
      have d0 := cell_of_heap hbw (i := 0) (v := .string ⟨x.1.toArray⟩) (by rfl)
      have d1 := cell_of_heap hbw (i := 1) (v := .slice ua x.2.length uc) (by rfl)
      have hrow2 := hrow.below hb2
      have hwl := heap_lt hbw
      have j0 : (0 : Int) ≤ (k : Int) := by omega
      have j1 : (k : Int) < (L.length : Int) := by omega
      have HX := Lib.hid hx; clear hx
      have HO := Lib.hid hof; clear hof
      have hp2 := (hb2.block _ (heap_lt hpr)).trans hpr
      clear a4 a5 a6 a7 a8 a9
      have hs2 := hb2.size
      -- what the round does once the file is good
      cases hno : nameOk x.1 with
      | false =>
        rw [hno] at hname
        have hnq := fun w => (hname w).mono (fun e w' h => (⟨h.1, h.2.symm⟩ : e = _ ∧ w' = w))
        have hbad := good_bad_name HX.out hno
        have HB := Lib.hid hbad; clear hbad hno
        go_wp2
        go_quiet ((go_at_call 83; exact Calls.quiet_of_same (hnq _)))
        go_wp2
        go_ret2
        exact ⟨.inr ⟨HB.out, rfl⟩, below_drewN (a2.trans (hb2.mono a2.size)) _⟩
      | true =>
        rw [hno] at hname
        have hnq := fun w => (hname w).mono (fun e w' h => (⟨h.1, h.2.symm⟩ : e = _ ∧ w' = w))
        have HNO := Lib.hid hno; clear hno
        cases k with
        | zero =>
          have HGD := Lib.hid (good_first HX.out HNO.out)
          simp only [Nat.zero_mul, Nat.add_zero] at n1 u1
          have j2 : decide ((0 : Int) < ((0 : Nat) : Int)) = false := by decide
          go_wp2
          go_quiet ((go_at_call 83; exact Calls.quiet_of_same (hnq _)))
          have hcq := clone_any ua uc x.2 (W2.drewN nq) hnil (hrow2.below (below_drewN (Below.refl _ W2) nq)) hx2
          have hb2q : Below wr.heap.size wr (W2.drewN nq) := below_drewN hb2 nq
          have hbwq : (W2.drewN nq).heap[wr.heap.size]? = some (.cells #[.string ⟨x.1.toArray⟩, .slice ua x.2.length uc] 156 (0, 0)) := hbw
          have hwq : wr.heap.size < (W2.drewN nq).heap.size := hwl
          have d1q : (W2.drewN nq).cell? ⟨wr.heap.size, 1, none⟩ = some (.slice ua x.2.length uc) := d1
          clear d0 d1 hbw hwl hrow2 hrow n1 u1 hp2
          generalize W2.drewN nq = W3 at *
          go_wp2_with (go_at_call 70; refine hcq.mono ?_; rintro _ w4 ⟨U, rfl, hU, hb4⟩; obtain ⟨Ua, Uc, rfl, _⟩ := hU.row; have hb14 : Below wr.heap.size wr w4 := hb2q.trans (hb4.mono hb2q.size); have hU' : BytesIn w4 (NewIn wr w4) (.slice Ua x.2.length Uc) x.2 := hU.mono (fun b h => ⟨Nat.le_trans hb2q.size h.1, h.2⟩); obtain ⟨w5, w6, hst1, hst2, hc45, hnx⟩ := HO.out.step HX.out HGD.out (by omega) (by omega) (by omega) (by omega) (by omega) (by omega) (by omega) (by omega) hb14 hU' 121; push_cast at hst1 hst2; have hpo4 := (hb14.block _ (heap_lt hpr)).trans hpr; have p1 := cell_of_heap hpo4 (i := 1) (v := .map (some w.heap.size)) (by rfl); have p2 := cell_of_heap (hc45.obj hpo4 (by omega)) (i := 2) (v := .map (some (w.heap.size + 1))) (by rfl); have e0 := cell_of_heap (hc45.obj ((hb4.block _ hwq).trans hbwq) (by omega)) (i := 0) (v := .string ⟨x.1.toArray⟩) (by rfl); have HNX := Lib.hid hnx; clear hnx hU hU')
          go_still_tail 7, (by kernel_rfl)
          change wpList _ _ _ _ _ w5.drew
          go_wp2
          go_roundw
          case rel => exact ⟨_, by omega, by go_num, HNX.out, HGD⟩
          case measure => simp [RowKit.intOf]; omega
        | succ k =>
          obtain ⟨y, hy⟩ : ∃ y, L[k]? = some y := ⟨L[k]'(by omega), by simp⟩
          obtain ⟨m1, va, vc, v1, _, _⟩ := HC.out k y hy
          unfold sv at m1
          have m1' := (hb2.cell (p := ⟨ab, ao + k * 2, none⟩) (cell_lt m1)).trans m1
          have j2 : decide ((0 : Int) < ((k + 1 : Nat) : Int)) = true := decide_eq_true (by omega)
          have j3 : ((k + 1 : Nat) : Int) - 1 = (k : Int) := by omega
          have j4 : (k : Int) < (L.length : Int) := by omega
          have j5 : (0 : Int) ≤ (k : Int) := by omega
          have hls := less_eq y.1 x.1
          cases hbb : bytesBefore y.1 x.1 with
          | false =>
            rw [hbb] at hls
            have HB := Lib.hid (good_bad_pair HX.out hy hbb)
            clear hbb hy m1 v1
            go_wp2
            go_quiet ((go_at_call 83; exact Calls.quiet_of_same (hnq _)))
            go_wp2
            go_ret2
            exact ⟨.inr ⟨HB.out, rfl⟩, below_drewN (a2.trans (hb2.mono a2.size)) _⟩
          | true =>
            rw [hbb] at hls
            have HGD := Lib.hid (good_next HG.out HX.out hy HNO.out hbb)
            clear hbb hy m1 v1
            go_wp2
            go_quiet ((go_at_call 83; exact Calls.quiet_of_same (hnq _)))
            have hcq := clone_any ua uc x.2 (W2.drewN nq) hnil (hrow2.below (below_drewN (Below.refl _ W2) nq)) hx2
            have hb2q : Below wr.heap.size wr (W2.drewN nq) := below_drewN hb2 nq
            have hbwq : (W2.drewN nq).heap[wr.heap.size]? = some (.cells #[.string ⟨x.1.toArray⟩, .slice ua x.2.length uc] 156 (0, 0)) := hbw
            have hwq : wr.heap.size < (W2.drewN nq).heap.size := hwl
            have d1q : (W2.drewN nq).cell? ⟨wr.heap.size, 1, none⟩ = some (.slice ua x.2.length uc) := d1
            clear d0 d1 hbw hwl hrow2 hrow n1 u1 hp2
            generalize W2.drewN nq = W3 at *
            go_wp2_with (go_at_call 70; refine hcq.mono ?_; rintro _ w4 ⟨U, rfl, hU, hb4⟩; obtain ⟨Ua, Uc, rfl, _⟩ := hU.row; have hb14 : Below wr.heap.size wr w4 := hb2q.trans (hb4.mono hb2q.size); have hU' : BytesIn w4 (NewIn wr w4) (.slice Ua x.2.length Uc) x.2 := hU.mono (fun b h => ⟨Nat.le_trans hb2q.size h.1, h.2⟩); obtain ⟨w5, w6, hst1, hst2, hc45, hnx⟩ := HO.out.step HX.out HGD.out (by omega) (by omega) (by omega) (by omega) (by omega) (by omega) (by omega) (by omega) hb14 hU' 121; push_cast at hst1 hst2; have hpo4 := (hb14.block _ (heap_lt hpr)).trans hpr; have p1 := cell_of_heap hpo4 (i := 1) (v := .map (some w.heap.size)) (by rfl); have p2 := cell_of_heap (hc45.obj hpo4 (by omega)) (i := 2) (v := .map (some (w.heap.size + 1))) (by rfl); have e0 := cell_of_heap (hc45.obj ((hb4.block _ hwq).trans hbwq) (by omega)) (i := 0) (v := .string ⟨x.1.toArray⟩) (by rfl); have HNX := Lib.hid hnx; clear hnx hU hU')
            go_still_tail 7, (by kernel_rfl)
            change wpList _ _ _ _ _ w5.drew
            go_wp2
            go_roundw
            case rel => exact ⟨_, by omega, by go_num, HNX.out, HGD⟩
            case measure => simp [RowKit.intOf]; omega
    · obtain rfl : k = L.length := by omega
      rw [List.take_length] at a6 HG
      have c2 := cell_of_heap hpr (i := 2) (v := .map (some (w.heap.size + 1))) (by rfl)
      have hcn := cloneN_any a6
      have hplt := heap_lt hpr
      have HO := Lib.hid hof; clear hof a1 a3 a4 a5 a6 a7 a8 a9
      go_wp2_with (go_at_call 50; refine hcn.mono ?_; rintro _ w13 ⟨rfl, hm13, hb13⟩; have k3 := cell_of_heap ((hb13.block _ hplt).trans hpr) (i := 3) (v := .map none) (by rfl); have z3 := frozen_of_heap (i := 3) ((hb13.block _ hplt).trans hpr))
      go_ret2
      have hz3 := HZ.out
      obtain ⟨own, hD, hown, hbf⟩ := OfAt.done hcl HO.out hm13 hb13 (by omega) (by omega) (by omega) (by omega) (by omega) (by omega) (by omega) (by omega)
      exact ⟨.inl ⟨HG.out, _, own, rfl, hD, hown⟩, hbf⟩

end Go.Proofs.YtlmdpcaikhdenaaGreat
