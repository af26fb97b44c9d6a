/- General lemmas, over any program: byte rows, strings, frames. -/
import Derived.WalkKit
import Derived.RangeFuncBox
import Derived.WalkSpells
import Derived.WalkLawsBesides
import Derived.Lib.Hide
namespace Go.Proofs.Ytfoaoofaldiajaa
open Go.RowKit

/-- the value of a byte -/
def bv (b : UInt8) : Value := .int .u8 (b.toNat : Int)

theorem ret_int {k : IntKind} {a b : Int} (h : a = b) : Ending.returned (.int k a) = .returned (.int k b) := by rw [h]
theorem ret_bool {a b : Bool} (h : a = b) : Ending.returned (.bool a) = .returned (.bool b) := by rw [h]

theorem bv_one (b : UInt8) : (bv b).oneCell' = true := rfl

/-- a literal block of the call's own is a row -/
theorem ownsRow_lit (w : World) (base : Nat) (cur : Array Value) (e : TypeId) (size n : Nat) (hb : base ≤ w.heap.size) (hn : n ≤ maxLen) (hs : cur.size = n * size) :
    (w.alloc (.cells cur e)).ownsRow base e size (.slice (some ⟨w.heap.size, 0, none⟩) n n) n cur.toList :=
  ⟨by simpa using hs, .inr ⟨w.heap.size, n, cur, rfl, hb, World.alloc_heap_new w _, Nat.le_refl _, hn, hs, by rw [← hs, List.take_of_length_le (by simp)]⟩⟩

theorem cell_new (w : World) (c : Array Value) (e : TypeId) (i : Nat) (v : Value) (h : c[i]? = some v) : (w.alloc (.cells c e)).cell? ⟨w.heap.size, i, none⟩ = some v := by
  rw [World.cell?, show (w.alloc _).heap[w.heap.size]? = some _ from World.alloc_heap_new w _]
  simpa using h
theorem frozen_new (w : World) (c : Array Value) (e : TypeId) (i : Nat) : (w.alloc (.cells c e)).frozen? ⟨w.heap.size, i, none⟩ = false := by
  rw [World.frozen?, show (w.alloc _).heap[w.heap.size]? = some _ from World.alloc_heap_new w _]
  simp

/-- string(b), b a row of bytes of the call's own -/
theorem run_convert_row {P : Program} {w : World} {base : Nat} {ty : TypeId} {v : Value} {l : List UInt8} (src dst e : TypeId) (hs : P.underlying src = some (.slice e)) (he : P.underlying e = some (.int .u8)) (hd : P.underlying dst = some .string)
    (h : w.ownsRow base ty 1 v l.length (l.map bv)) : (convert src dst v).run P w = Result.ok (.string ⟨l.toArray⟩) w := by
  rcases h.2 with ⟨rfl, hn⟩ | ⟨g, cap, cur, rfl, _⟩
  · obtain rfl : l = [] := by simpa using hn
    exact run_convert_bytes_nil w src e hs he 0 0 dst hd
  · have hc := h.cells (g := g) rfl
    exact run_convert_bytes_back w src dst e ⟨g, 0, none⟩ cap l hs he hd (fun j hj => hc j _ (by simp [bv, hj]))

/-- []byte(s): a new block whose cells are the bytes -/
theorem run_bytes_of {P : Program} (src dst e : TypeId) (hs : P.underlying src = some .string) (hd : P.underlying dst = some (.slice e)) (he : P.underlying e = some (.int .u8)) (l : List UInt8) (w : World) :
    ∃ c O, (convert src dst (.string ⟨l.toArray⟩)).run P w = Result.ok (.slice (some ⟨w.heap.size, 0, none⟩) l.length c) ((w.alloc O).drew) ∧ l.length ≤ c ∧
      (∀ i (h : i < l.length), (w.alloc O).cell? ⟨w.heap.size, i, none⟩ = some (bv l[i])) ∧ (∀ i, i < l.length → (w.alloc O).frozen? ⟨w.heap.size, i, none⟩ = false) := by
  have hsz : (⟨l.toArray⟩ : ByteArray).size = l.length := by simp [ByteArray.size]
  refine ⟨grownCap w l.length 0 e, .cells (bytesRow ⟨l.toArray⟩ (grownCap w l.length 0 e)) e ((bytesRow ⟨l.toArray⟩ (grownCap w l.length 0 e)).size, (bytesRow ⟨l.toArray⟩ (grownCap w l.length 0 e)).size + 1), (run_bytes_of_string w src dst e ⟨l.toArray⟩ hs hd he).trans (by rw [hsz]; rfl), grownCap_ge _ _ _ _, ?_, ?_⟩
  · intro i h
    rw [World.cell?, show (w.alloc _).heap[w.heap.size]? = some _ from World.alloc_heap_new w _]
    simp [bytesRow, bv, Array.getElem?_append, h]
  · intro i h
    rw [World.frozen?, show (w.alloc _).heap[w.heap.size]? = some _ from World.alloc_heap_new w _]
    simp [bytesRow, ByteArray.size]
    omega

/-- a string's bytes from a place on -/
theorem run_slice_from {P : Program} (t : TypeId) (ht : P.underlying t = some .string) (l : List UInt8) (k : Nat) (hk : k ≤ l.length) (w : World) :
    (Instr.slice t (.string ⟨l.toArray⟩) (some (.int .i64 k)) none none).run P w = Result.ok (.string ⟨(l.drop k).toArray⟩) w := by
  rw [run_slice_string_l (t := t) (ht := ht) (kl := .i64) (h0 := by omega) (h1 := by simp [ByteArray.size]; omega)]
  have : (⟨l.toArray⟩ : ByteArray).extract k (⟨l.toArray⟩ : ByteArray).size = ⟨(l.drop k).toArray⟩ := by
    apply ByteArray.ext
    simp [ByteArray.size]
    exact List.take_of_length_le (by simp)
  simpa using this

theorem run_index_str {P : Program} (t : TypeId) (ht : P.underlying t = some .string) (l : List UInt8) (k : Nat) (hk : k < l.length) (w : World) :
    (Instr.index t (.string ⟨l.toArray⟩) (.int .i64 k)).run P w = Result.ok (bv l[k]) w := by
  rw [run_index_string (t := t) (k := .i64) (h := ht), dif_pos ⟨by omega, by simp [ByteArray.size]; omega⟩]
  simp [bv]
  rfl

/-- the value of a string -/
def sv (l : List UInt8) : Value := .string ⟨l.toArray⟩
/-- a slice whose elements, of one cell each, are xs; an empty one may lie anywhere -/
def RowAt (w : World) (a : Option Addr) (xs : List Value) : Prop := xs ≠ [] → ∃ b off, a = some ⟨b, off, none⟩ ∧ ∀ j u, xs[j]? = some u → w.cell? ⟨b, off + j, none⟩ = some u

theorem cell_lt {w : World} {a : Addr} {v : Value} (h : w.cell? a = some v) : a.block < w.heap.size := by
  unfold World.cell? at h
  split at h
  · rename_i hb; exact (Array.getElem?_eq_some_iff.1 hb).1
  · cases h
theorem RowAt.below {w w' : World} {a : Option Addr} {xs : List Value} (h : RowAt w a xs) (hb : Below w.heap.size w w') : RowAt w' a xs := fun hx => by
  obtain ⟨b, off, e, hc⟩ := h hx
  exact ⟨b, off, e, fun j u hu => (hb.cell (p := ⟨b, off + j, none⟩) (cell_lt (hc j u hu))).trans (hc j u hu)⟩
theorem RowAt.at_ {w : World} {a : Option Addr} {xs : List Value} (h : RowAt w a xs) {k : Nat} (hk : k < xs.length) : ∃ b off, a = some ⟨b, off, none⟩ ∧ w.cell? ⟨b, off + k, none⟩ = some xs[k] := by
  obtain ⟨b, off, e, hc⟩ := h (by intro e; subst e; simp at hk)
  exact ⟨b, off, e, hc k _ (List.getElem?_eq_getElem hk)⟩
theorem addr_add (g j : Nat) : (⟨g, 0, none⟩ : Addr).add j = ⟨g, j, none⟩ := by unfold Addr.add; split <;> simp_all
theorem RowAt.of_owns {w : World} {base : Nat} {e : TypeId} {v : Value} {n : Nat} {xs : List Value} (h : w.ownsRow base e 1 v n xs) : ∃ a cap, v = .slice a n cap ∧ RowAt w a xs ∧ xs.length = n := by
  have hl : xs.length = n := by have := h.1; omega
  rcases h.2 with ⟨rfl, rfl⟩ | ⟨g, cap, cur, rfl, _⟩
  · exact ⟨none, 0, rfl, fun hx => absurd (List.length_eq_zero_iff.1 hl) hx, hl⟩
  · have hc := h.cells (g := g) rfl
    exact ⟨_, cap, rfl, fun _ => ⟨g, 0, rfl, fun j u hu => by have h := hc j u hu; rw [addr_add] at h; rw [Nat.zero_add]; exact h⟩, hl⟩

theorem ownsRow_base_le {w : World} {base base' : Nat} {e : TypeId} {size : Nat} {v : Value} {n : Nat} {xs : List Value} (h : w.ownsRow base e size v n xs) (hb : base' ≤ base) : w.ownsRow base' e size v n xs := by
  obtain ⟨h1, h2⟩ := h
  refine ⟨h1, h2.imp id ?_⟩
  rintro ⟨g, cap, cur, rfl, h3, h4⟩
  exact ⟨g, cap, cur, rfl, Nat.le_trans hb h3, h4⟩
theorem wf_i64 {x : Int} (h0 : -9223372036854775808 ≤ x) (h1 : x ≤ 9223372036854775807) : (Lit.int .i64 x).wf = true := by
  have e1 : IntKind.i64.min = -9223372036854775808 := by decide
  have e2 : IntKind.i64.max = 9223372036854775807 := by decide
  simp [Lit.wf, e1, e2]; omega
theorem i64_of_wf {x : Int} (h : (Lit.int .i64 x).wf = true) : -9223372036854775808 ≤ x ∧ x ≤ 9223372036854775807 := by
  have e1 : IntKind.i64.min = -9223372036854775808 := by decide
  have e2 : IntKind.i64.max = 9223372036854775807 := by decide
  simp [Lit.wf, e1, e2] at h; omega
theorem u8_of_wf {x : Int} (h : (Lit.int .u8 x).wf = true) : 0 ≤ x ∧ x < 256 := by
  have e1 : IntKind.u8.min = 0 := by decide
  have e2 : IntKind.u8.max = 255 := by decide
  simp [Lit.wf, e1, e2] at h; omega
/-- one step behind another -/
theorem bthen {a b c : World} (h : Below a.heap.size a b) (k : Below b.heap.size b c) : Below a.heap.size a c := h.trans (k.mono h.size)
theorem Below.grownBy {w w' : World} {row : Option Nat} (h : Below w.heap.size w w') : w.grownBy w' row := ⟨h.os, h.tape, h.output, h.size, fun k hk _ => h.block k hk⟩

end Go.Proofs.Ytfoaoofaldiajaa
