/- Disk: the methods' contracts, of a disk whose blocks are new from lo on. -/
import Derived.Test.YtgckcnnnblggbaaDlD
import Derived.Test.YtgckcnnnblggbaaDlF
import Derived.Test.YtgckcnnnblggbaaDlH
import Derived.Test.YtgckcnnnblggbaaDkL
import Derived.Test.YtgckcnnnblggbaaDkO
import Derived.Test.YtgckcnnnblggbaaDkQ
namespace Go.Proofs.Ytgckcnnnblggbaa
open Go.RowKit Go.Maps

/-- the program's disk s lies at p, and writes no block below lo -/
def Has (lo : Nat) (w : World) (p : Nat) (s : DSt) : Prop := ∃ own R, DiskAt w p s own R ∧ ∀ b ∈ own, lo ≤ b
theorem DiskAt.p_mem {w : World} {p : Nat} {s : DSt} {own : List Nat} {R : Nat → Prop} (h : DiskAt w p s own R) : p ∈ own := by
  obtain ⟨mf, mn, ms, fb, vs, vw, ss, ws, e, h1, rfl⟩ := h
  exact mem_own_p
theorem DiskAt.own_lt {w : World} {p : Nat} {s : DSt} {own : List Nat} {R : Nat → Prop} (h : DiskAt w p s own R) {b : Nat} (hb : b ∈ own) : b < w.heap.size := by
  obtain ⟨mf, mn, ms, fb, vs, vw, ss, ws, e, h1, rfl⟩ := h
  exact (h1.own b hb).1
theorem DiskAt.shared {w : World} {p : Nat} {s : DSt} {own : List Nat} {R : Nat → Prop} (h : DiskAt w p s own R) {b : Nat} (hb : R b) : b < w.heap.size ∧ b ∉ own := by
  obtain ⟨mf, mn, ms, fb, vs, vw, ss, ws, e, h1, rfl⟩ := h
  exact h1.hR b hb
theorem DiskAt.below {w w' : World} {p : Nat} {s : DSt} {own : List Nat} {R : Nat → Prop} (h : DiskAt w p s own R) (hb : Below w.heap.size w w') : DiskAt w' p s own R := by
  obtain ⟨mf, mn, ms, fb, vs, vw, ss, ws, e, h1, rfl⟩ := h
  exact ⟨mf, mn, ms, fb, vs, vw, ss, ws, e, h1.below hb, rfl⟩
theorem Has.lo {lo : Nat} {w : World} {p : Nat} {s : DSt} (h : Has lo w p s) : lo ≤ p ∧ p < w.heap.size := by
  obtain ⟨own, R, h1, h2⟩ := h
  exact ⟨h2 p h1.p_mem, h1.own_lt h1.p_mem⟩
theorem Has.below {lo : Nat} {w w' : World} {p : Nat} {s : DSt} (h : Has lo w p s) (hb : Below w.heap.size w w') : Has lo w' p s := by
  obtain ⟨own, R, h1, h2⟩ := h
  exact ⟨own, R, h1.below hb, h2⟩
theorem Has.of_turns {lo : Nat} {w w' : World} {p : Nat} {s' : DSt} {own : List Nat} {R : Nat → Prop} (h2 : ∀ b ∈ own, lo ≤ b) (hlo : lo ≤ w.heap.size) (ht : Turns w w' p s' own R) : Has lo w' p s' ∧ Below lo w w' := by
  obtain ⟨own', k1, k2, k3⟩ := ht
  refine ⟨⟨own', _, k1, fun b hb => ?_⟩, ⟨k2.os, k2.tape, k2.output, k2.size, fun y hy => k2.block y (by omega) (fun hm => by have := h2 y hm; omega)⟩⟩
  rcases k3 b hb with h | h
  · exact h2 b h
  · omega
section
variable {lo : Nat} {w : World} {p : Nat} {s : DSt} {N : Nat}
theorem Has.create (h : Has lo w p s) {k : List UInt8} (hk : k.length ≤ maxLen) (hok : s.Ok N) (hN : N + 1 < maxList) :
    Calls Try.prog 17 #[.pointer (some ⟨p, 0, none⟩), .string ⟨k.toArray⟩] w fun e w' => e = .returned (.int .i64 ((s.create k).2 : Int)) ∧ Has lo w' p (s.create k).1 ∧ Below lo w w' := by
  have hlo := h.lo
  obtain ⟨own, R, ⟨mf, mn, ms, fb, vs, vw, ss, ws, e, h1, rfl⟩, h2⟩ := h
  exact (Create_any h1 hk hok (by omega)).mono fun e w' ⟨k1, k2⟩ => ⟨k1, Has.of_turns h2 (by omega) k2⟩
theorem Has.put (h : Has lo w p s) {k : List UInt8} (hk : k.length ≤ maxLen) {at_ : Int} {xa : Option Addr} {xc : Nat} {l : List UInt8} (hrow : RowAt w xa (l.map bv)) (hnil : xa = none → xc = 0) (hl : l.length ≤ 140737488355328) (h64 : -9223372036854775808 ≤ at_ ∧ at_ < 9223372036854775808) (hok : s.Ok N) (hN : N + 1 < maxList) :
    Calls Try.prog 12 #[.pointer (some ⟨p, 0, none⟩), .string ⟨k.toArray⟩, .int .i64 at_, .slice xa l.length xc] w fun e w' => e = .returned (.int .i64 ((s.put k at_ l).2 : Int)) ∧ Has lo w' p (s.put k at_ l).1 ∧ Below lo w w' := by
  have hlo := h.lo
  obtain ⟨own, R, ⟨mf, mn, ms, fb, vs, vw, ss, ws, e, h1, rfl⟩, h2⟩ := h
  exact (Write_any h1 hk hok hN hrow hnil hl h64).mono fun e w' ⟨k1, k2⟩ => ⟨k1, Has.of_turns h2 (by omega) k2⟩
theorem Has.cut (h : Has lo w p s) {k : List UInt8} (hk : k.length ≤ maxLen) {size : Int} (h64 : -9223372036854775808 ≤ size ∧ size < 9223372036854775808) (hok : s.Ok N) (hN : N + 1 < maxList) :
    Calls Try.prog 14 #[.pointer (some ⟨p, 0, none⟩), .string ⟨k.toArray⟩, .int .i64 size] w fun e w' => e = .returned (.int .i64 ((s.cut k size).2 : Int)) ∧ Has lo w' p (s.cut k size).1 ∧ Below lo w w' := by
  have hlo := h.lo
  obtain ⟨own, R, ⟨mf, mn, ms, fb, vs, vw, ss, ws, e, h1, rfl⟩, h2⟩ := h
  exact (Cut_any h1 hk hok hN h64).mono fun e w' ⟨k1, k2⟩ => ⟨k1, Has.of_turns h2 (by omega) k2⟩
theorem Has.sync (h : Has lo w p s) {k : List UInt8} (hk : k.length ≤ maxLen) (hok : s.Ok N) (hN : N + 1 < maxList) :
    Calls Try.prog 18 #[.pointer (some ⟨p, 0, none⟩), .string ⟨k.toArray⟩] w fun e w' => e = .returned (.int .i64 ((s.sync k).2 : Int)) ∧ Has lo w' p (s.sync k).1 ∧ Below lo w w' := by
  have hlo := h.lo
  obtain ⟨own, R, ⟨mf, mn, ms, fb, vs, vw, ss, ws, e, h1, rfl⟩, h2⟩ := h
  exact (Sync_any h1 hk hok hN).mono fun e w' ⟨k1, k2⟩ => ⟨k1, Has.of_turns h2 (by omega) k2⟩
theorem Has.syncNames (h : Has lo w p s)  (hok : s.Ok N) (hN : N + 1 < maxList) :
    Calls Try.prog 19 #[.pointer (some ⟨p, 0, none⟩)] w fun e w' => e = .returned (.int .i64 ((s.syncNames).2 : Int)) ∧ Has lo w' p (s.syncNames).1 ∧ Below lo w w' := by
  have hlo := h.lo
  obtain ⟨own, R, ⟨mf, mn, ms, fb, vs, vw, ss, ws, e, h1, rfl⟩, h2⟩ := h
  exact (SyncNames_any h1 hok hN).mono fun e w' ⟨k1, k2⟩ => ⟨k1, Has.of_turns h2 (by omega) k2⟩
theorem Has.rename (h : Has lo w p s) {k t : List UInt8} (hk : k.length ≤ maxLen) (ht : t.length ≤ maxLen) (hok : s.Ok N) (hN : N + 1 < maxList) :
    Calls Try.prog 44 #[.pointer (some ⟨p, 0, none⟩), .string ⟨k.toArray⟩, .string ⟨t.toArray⟩] w fun e w' => e = .returned (.int .i64 ((s.rename k t).2 : Int)) ∧ Has lo w' p (s.rename k t).1 ∧ Below lo w w' := by
  have hlo := h.lo
  obtain ⟨own, R, ⟨mf, mn, ms, fb, vs, vw, ss, ws, e, h1, rfl⟩, h2⟩ := h
  exact (Rename_any h1 hk ht hok hN).mono fun e w' ⟨k1, k2⟩ => ⟨k1, Has.of_turns h2 (by omega) k2⟩
theorem Has.remove (h : Has lo w p s) {k : List UInt8} (hk : k.length ≤ maxLen) (hok : s.Ok N) (hN : N + 1 < maxList) :
    Calls Try.prog 13 #[.pointer (some ⟨p, 0, none⟩), .string ⟨k.toArray⟩] w fun e w' => e = .returned (.int .i64 ((s.remove k).2 : Int)) ∧ Has lo w' p (s.remove k).1 ∧ Below lo w w' := by
  have hlo := h.lo
  obtain ⟨own, R, ⟨mf, mn, ms, fb, vs, vw, ss, ws, e, h1, rfl⟩, h2⟩ := h
  exact (Remove_any h1 hk hok hN).mono fun e w' ⟨k1, k2⟩ => ⟨k1, Has.of_turns h2 (by omega) k2⟩
theorem Has.read (h : Has lo w p s) {k : List UInt8} (hk : k.length ≤ maxLen) {at_ n : Int} (h64 : -9223372036854775808 ≤ at_ ∧ at_ < 9223372036854775808) (hok : s.Ok N) (hN : N < maxList) :
    Calls Try.prog 22 #[.pointer (some ⟨p, 0, none⟩), .string ⟨k.toArray⟩, .int .i64 at_, .int .i64 n] w fun e w' => ∃ U, e = .returned (.tuple #[U, .int .i64 ((s.read k at_ n).2 : Int)]) ∧ BytesIn w' (NewIn w w') U (s.read k at_ n).1 ∧ Below w.heap.size w w' := by
  obtain ⟨own, R, ⟨mf, mn, ms, fb, vs, vw, ss, ws, e, h1, rfl⟩, h2⟩ := h
  exact Read_any h1 hk hok hN h64
theorem Has.size (h : Has lo w p s) {k : List UInt8} (hk : k.length ≤ maxLen) (hok : s.Ok N) (hN : N < maxList) :
    Calls Try.prog 54 #[.pointer (some ⟨p, 0, none⟩), .string ⟨k.toArray⟩] w fun e w' => e = .returned (.tuple #[.int .i64 ((s.size k).1 : Int), .int .i64 ((s.size k).2 : Int)]) ∧ Below w.heap.size w w' := by
  obtain ⟨own, R, ⟨mf, mn, ms, fb, vs, vw, ss, ws, e, h1, rfl⟩, h2⟩ := h
  exact Size_any h1 hk hok hN
theorem Has.pending (h : Has lo w p s)  :
    Calls Try.prog 27 #[.pointer (some ⟨p, 0, none⟩)] w fun e w' => e = .returned (.tuple #[.int .i64 (s.steps.length : Int), .int .i64 (s.writes.length : Int)]) ∧ Below w.heap.size w w' := by
  obtain ⟨own, R, ⟨mf, mn, ms, fb, vs, vw, ss, ws, e, h1, rfl⟩, h2⟩ := h
  exact Pending_any h1
theorem Has.steps (h : Has lo w p s)  :
    Calls Try.prog 28 #[.pointer (some ⟨p, 0, none⟩)] w fun e w' => e = .returned (.int .i64 (s.done : Int)) ∧ w = w' := by
  obtain ⟨own, R, ⟨mf, mn, ms, fb, vs, vw, ss, ws, e, h1, rfl⟩, h2⟩ := h
  exact Steps_any h1
theorem Has.capacity (h : Has lo w p s)  :
    Calls Try.prog 55 #[.pointer (some ⟨p, 0, none⟩)] w fun e w' => e = .returned (.int .i64 (s.room : Int)) ∧ w = w' := by
  obtain ⟨own, R, ⟨mf, mn, ms, fb, vs, vw, ss, ws, e, h1, rfl⟩, h2⟩ := h
  exact Capacity_any h1
theorem Has.room (h : Has lo w p s)  (hok : s.Ok N) (hN : N < maxList) :
    Calls Try.prog 29 #[.pointer (some ⟨p, 0, none⟩)] w fun e w' => e = .returned (.int .i64 ((s.room - s.used : Nat) : Int)) ∧ Below w.heap.size w w' := by
  obtain ⟨own, R, ⟨mf, mn, ms, fb, vs, vw, ss, ws, e, h1, rfl⟩, h2⟩ := h
  exact Room_any h1 hok hN
theorem Has.names (h : Has lo w p s)  (hok : s.Ok N) (hN : N < maxList) :
    Calls Try.prog 20 #[.pointer (some ⟨p, 0, none⟩)] w fun e w' => ∃ v, e = .returned (.tuple #[v, .int .i64 0]) ∧ w'.ownsRow w.heap.size 9 1 v s.names.length ((s.names.map (·.1)).map sv) ∧ Below w.heap.size w w' := by
  obtain ⟨own, R, ⟨mf, mn, ms, fb, vs, vw, ss, ws, e, h1, rfl⟩, h2⟩ := h
  exact Names_any h1 hok hN
theorem Has.files (h : Has lo w p s)  (hok : s.Ok N) (hN : N < maxList) :
    Calls Try.prog 31 #[.pointer (some ⟨p, 0, none⟩)] w fun e w' => ∃ v cs, e = .returned v ∧ FilesAt w' w.heap.size (w.heap.size + 1) v cs s.all ∧ Below w.heap.size w w' := by
  obtain ⟨own, R, ⟨mf, mn, ms, fb, vs, vw, ss, ws, e, h1, rfl⟩, h2⟩ := h
  exact Files_any h1 hok hN
theorem Has.stop (h : Has lo w p s) {names torn : Int} (htorn : torn < 9223372036854775808) {ka : Option Addr} {kc : Nat} {keep : List Bool} (hkrow : RowAt w ka (keep.map Value.bool)) (hkeep : keep.length ≤ maxLen) (hok : s.Ok N) (hN : N < maxList) :
    Calls Try.prog 21 #[.pointer (some ⟨p, 0, none⟩), .agg #[.int .i64 names, .slice ka keep.length kc, .int .i64 torn]] w fun e w' => ∃ po, e = .returned (.pointer (some ⟨po, 0, none⟩)) ∧ Has w.heap.size w' po (s.stop names keep torn) ∧ Below w.heap.size w w' := by
  obtain ⟨own, R, ⟨mf, mn, ms, fb, vs, vw, ss, ws, e, h1, rfl⟩, h2⟩ := h
  exact (Stop_any h1 hok hN htorn hkrow hkeep).mono fun e w' ⟨po, own', k1, k2, k3, k4⟩ => ⟨po, k1, ⟨own', _, k2, k3⟩, k4⟩
theorem Has.new {cap : Nat} (hc : cap ≤ 1099511627776) (w : World) : Calls Try.prog 25 #[.int .i64 (cap : Int)] w fun e w' => ∃ p, e = .returned (.tuple #[.pointer (some ⟨p, 0, none⟩), .int .i64 0]) ∧ Has w.heap.size w' p (DSt.empty cap) ∧ Below w.heap.size w w' :=
  (new_any hc w).mono fun e w' ⟨p, own, k1, k2, k3, k4⟩ => ⟨p, k1, ⟨own, _, k2, k3⟩, k4⟩
end
/-- a slice that a literal makes -/
theorem row_built (w : World) (cs : Array Value) (t : TypeId) : RowAt (w.alloc (.cells cs t)) (some ⟨w.heap.size, 0, none⟩) cs.toList := fun _ => ⟨w.heap.size, 0, rfl, fun j u hu => by rw [Nat.zero_add]; exact cell_new w cs t j u (by simpa using hu)⟩

end Go.Proofs.Ytgckcnnnblggbaa
