/- General lemmas, over any program: byte rows, strings, frames. -/
import Derived.WalkKit
import Derived.RangeFuncBox
import Derived.WalkSpells
import Derived.WalkLawsBesides
import Derived.Lib.Hide
import Derived.Laws.AppendOwnNone
namespace Go.Proofs.Ytgckcnnnblggbaa
open Go.RowKit

/-- the value of a byte -/
def bv (b : UInt8) : Value := .int .u8 (b.toNat : Int)

theorem ret_int {k : IntKind} {a b : Int} (h : a = b) : Ending.returned (.int k a) = .returned (.int k b) := by rw [h]
theorem ret_bool {a b : Bool} (h : a = b) : Ending.returned (.bool a) = .returned (.bool b) := by rw [h]

theorem bv_one (b : UInt8) : (bv b).oneCell' = true := rfl

/-- a literal block of the call's own is a row -/
theorem ownsRow_lit (w : World) (base : Nat) (cur : Array Value) (e : TypeId) (size n : Nat) (hb : base ≤ w.heap.size) (hn : n ≤ maxLen) (hs : cur.size = n * size) :
    (w.alloc (.cells cur e)).ownsRow base e size (.slice (some ⟨w.heap.size, 0, none⟩) n n) n cur.toList :=
  ⟨by simpa using hs, .inr ⟨w.heap.size, n, cur, rfl, hb, World.alloc_heap_new w _, Nat.le_refl _, hn, hs, by rw [← hs, List.take_of_length_le (by simp)]⟩⟩

theorem cell_new (w : World) (c : Array Value) (e : TypeId) (i : Nat) (v : Value) (h : c[i]? = some v) : (w.alloc (.cells c e)).cell? ⟨w.heap.size, i, none⟩ = some v := by
  rw [World.cell?, show (w.alloc _).heap[w.heap.size]? = some _ from World.alloc_heap_new w _]
  simpa using h
theorem frozen_new (w : World) (c : Array Value) (e : TypeId) (i : Nat) : (w.alloc (.cells c e)).frozen? ⟨w.heap.size, i, none⟩ = false := by
  rw [World.frozen?, show (w.alloc _).heap[w.heap.size]? = some _ from World.alloc_heap_new w _]
  simp

/-- string(b), b a row of bytes of the call's own -/
theorem run_convert_row {P : Program} {w : World} {base : Nat} {ty : TypeId} {v : Value} {l : List UInt8} (src dst e : TypeId) (hs : P.underlying src = some (.slice e)) (he : P.underlying e = some (.int .u8)) (hd : P.underlying dst = some .string)
    (h : w.ownsRow base ty 1 v l.length (l.map bv)) : (convert src dst v).run P w = Result.ok (.string ⟨l.toArray⟩) w := by
  rcases h.2 with ⟨rfl, hn⟩ | ⟨g, cap, cur, rfl, _⟩
  · obtain rfl : l = [] := by simpa using hn
    exact run_convert_bytes_nil w src e hs he 0 0 dst hd
  · have hc := h.cells (g := g) rfl
    exact run_convert_bytes_back w src dst e ⟨g, 0, none⟩ cap l hs he hd (fun j hj => hc j _ (by simp [bv, hj]))

/-- []byte(s): a new block whose cells are the bytes -/
theorem run_bytes_of {P : Program} (src dst e : TypeId) (hs : P.underlying src = some .string) (hd : P.underlying dst = some (.slice e)) (he : P.underlying e = some (.int .u8)) (l : List UInt8) (w : World) :
    ∃ c O, (convert src dst (.string ⟨l.toArray⟩)).run P w = Result.ok (.slice (some ⟨w.heap.size, 0, none⟩) l.length c) ((w.alloc O).drew) ∧ l.length ≤ c ∧
      (∀ i (h : i < l.length), (w.alloc O).cell? ⟨w.heap.size, i, none⟩ = some (bv l[i])) ∧ (∀ i, i < l.length → (w.alloc O).frozen? ⟨w.heap.size, i, none⟩ = false) := by
  have hsz : (⟨l.toArray⟩ : ByteArray).size = l.length := by simp [ByteArray.size]
  refine ⟨grownCap w l.length 0 e, .cells (bytesRow ⟨l.toArray⟩ (grownCap w l.length 0 e)) e ((bytesRow ⟨l.toArray⟩ (grownCap w l.length 0 e)).size, (bytesRow ⟨l.toArray⟩ (grownCap w l.length 0 e)).size + 1), (run_bytes_of_string w src dst e ⟨l.toArray⟩ hs hd he).trans (by rw [hsz]; rfl), grownCap_ge _ _ _ _, ?_, ?_⟩
  · intro i h
    rw [World.cell?, show (w.alloc _).heap[w.heap.size]? = some _ from World.alloc_heap_new w _]
    simp [bytesRow, bv, Array.getElem?_append, h]
  · intro i h
    rw [World.frozen?, show (w.alloc _).heap[w.heap.size]? = some _ from World.alloc_heap_new w _]
    simp [bytesRow, ByteArray.size]
    omega

/-- a string's bytes from a place on -/
theorem run_slice_from {P : Program} (t : TypeId) (ht : P.underlying t = some .string) (l : List UInt8) (k : Nat) (hk : k ≤ l.length) (w : World) :
    (Instr.slice t (.string ⟨l.toArray⟩) (some (.int .i64 k)) none none).run P w = Result.ok (.string ⟨(l.drop k).toArray⟩) w := by
  rw [run_slice_string_l (t := t) (ht := ht) (kl := .i64) (h0 := by omega) (h1 := by simp [ByteArray.size]; omega)]
  have : (⟨l.toArray⟩ : ByteArray).extract k (⟨l.toArray⟩ : ByteArray).size = ⟨(l.drop k).toArray⟩ := by
    apply ByteArray.ext
    simp [ByteArray.size]
    exact List.take_of_length_le (by simp)
  simpa using this

theorem run_index_str {P : Program} (t : TypeId) (ht : P.underlying t = some .string) (l : List UInt8) (k : Nat) (hk : k < l.length) (w : World) :
    (Instr.index t (.string ⟨l.toArray⟩) (.int .i64 k)).run P w = Result.ok (bv l[k]) w := by
  rw [run_index_string (t := t) (k := .i64) (h := ht), dif_pos ⟨by omega, by simp [ByteArray.size]; omega⟩]
  simp [bv]
  rfl

/-- the value of a string -/
def sv (l : List UInt8) : Value := .string ⟨l.toArray⟩
/-- a slice whose elements, of one cell each, are xs; an empty one may lie anywhere -/
def RowAt (w : World) (a : Option Addr) (xs : List Value) : Prop := xs ≠ [] → ∃ b off, a = some ⟨b, off, none⟩ ∧ ∀ j u, xs[j]? = some u → w.cell? ⟨b, off + j, none⟩ = some u

theorem cell_lt {w : World} {a : Addr} {v : Value} (h : w.cell? a = some v) : a.block < w.heap.size := by
  unfold World.cell? at h
  split at h
  · rename_i hb; exact (Array.getElem?_eq_some_iff.1 hb).1
  · cases h
theorem RowAt.below {w w' : World} {a : Option Addr} {xs : List Value} (h : RowAt w a xs) (hb : Below w.heap.size w w') : RowAt w' a xs := fun hx => by
  obtain ⟨b, off, e, hc⟩ := h hx
  exact ⟨b, off, e, fun j u hu => (hb.cell (p := ⟨b, off + j, none⟩) (cell_lt (hc j u hu))).trans (hc j u hu)⟩
theorem RowAt.at_ {w : World} {a : Option Addr} {xs : List Value} (h : RowAt w a xs) {k : Nat} (hk : k < xs.length) : ∃ b off, a = some ⟨b, off, none⟩ ∧ w.cell? ⟨b, off + k, none⟩ = some xs[k] := by
  obtain ⟨b, off, e, hc⟩ := h (by intro e; subst e; simp at hk)
  exact ⟨b, off, e, hc k _ (List.getElem?_eq_getElem hk)⟩
theorem addr_add (g j : Nat) : (⟨g, 0, none⟩ : Addr).add j = ⟨g, j, none⟩ := by unfold Addr.add; split <;> simp_all
theorem RowAt.of_owns {w : World} {base : Nat} {e : TypeId} {v : Value} {n : Nat} {xs : List Value} (h : w.ownsRow base e 1 v n xs) : ∃ a cap, v = .slice a n cap ∧ RowAt w a xs ∧ xs.length = n := by
  have hl : xs.length = n := by have := h.1; omega
  rcases h.2 with ⟨rfl, rfl⟩ | ⟨g, cap, cur, rfl, _⟩
  · exact ⟨none, 0, rfl, fun hx => absurd (List.length_eq_zero_iff.1 hl) hx, hl⟩
  · have hc := h.cells (g := g) rfl
    exact ⟨_, cap, rfl, fun _ => ⟨g, 0, rfl, fun j u hu => by have h := hc j u hu; rw [addr_add] at h; rw [Nat.zero_add]; exact h⟩, hl⟩

theorem ownsRow_base_le {w : World} {base base' : Nat} {e : TypeId} {size : Nat} {v : Value} {n : Nat} {xs : List Value} (h : w.ownsRow base e size v n xs) (hb : base' ≤ base) : w.ownsRow base' e size v n xs := by
  obtain ⟨h1, h2⟩ := h
  refine ⟨h1, h2.imp id ?_⟩
  rintro ⟨g, cap, cur, rfl, h3, h4⟩
  exact ⟨g, cap, cur, rfl, Nat.le_trans hb h3, h4⟩
theorem wf_i64 {x : Int} (h0 : -9223372036854775808 ≤ x) (h1 : x ≤ 9223372036854775807) : (Lit.int .i64 x).wf = true := by
  have e1 : IntKind.i64.min = -9223372036854775808 := by decide
  have e2 : IntKind.i64.max = 9223372036854775807 := by decide
  simp [Lit.wf, e1, e2]; omega
theorem i64_of_wf {x : Int} (h : (Lit.int .i64 x).wf = true) : -9223372036854775808 ≤ x ∧ x ≤ 9223372036854775807 := by
  have e1 : IntKind.i64.min = -9223372036854775808 := by decide
  have e2 : IntKind.i64.max = 9223372036854775807 := by decide
  simp [Lit.wf, e1, e2] at h; omega
theorem u8_of_wf {x : Int} (h : (Lit.int .u8 x).wf = true) : 0 ≤ x ∧ x < 256 := by
  have e1 : IntKind.u8.min = 0 := by decide
  have e2 : IntKind.u8.max = 255 := by decide
  simp [Lit.wf, e1, e2] at h; omega
/-- one step behind another -/
theorem bthen {a b c : World} (h : Below a.heap.size a b) (k : Below b.heap.size b c) : Below a.heap.size a c := h.trans (k.mono h.size)
theorem Below.grownBy {w w' : World} {row : Option Nat} (h : Below w.heap.size w w') : w.grownBy w' row := ⟨h.os, h.tape, h.output, h.size, fun k hk _ => h.block k hk⟩

/-- append onto a row of the call's own, from whatever slice of one-cell elements -/
theorem wpList_append_any {P : Program} (w : World) {ops : Array Oper} {rest : List Oper} {o : Oper} {a : Act} {Q : Exit → Act → World → Prop} (hgd : o.guard = none) (s x : Operand) (t : TypeId)
    (ho : o.op = .call { callee := .builtin .append, args := #[s, x], argTypes := #[t, t] })
    (base : Nat) (e : TypeId) (i : TypeInfo) (z : Value) (bytes : Nat) (ht : P.underlying t = some (.slice e)) (hi : P.info? e = some i) (hz : i.zero = some z)
    (hsize : i.size = 1) (hby : i.bytes = bytes) (hzs : z.cells.size = 1)
    (v : Value) (n : Nat) (xs : List Value) (hs : a.eval s = v) (hown : w.ownsRow base e 1 v n xs)
    (sa : Option Addr) (m c : Nat) (news : List Value) (hx : a.eval x = .slice sa m c) (hl : news.length = m) (hnil : sa = none → c = 0) (hnews : RowAt w sa news) (h1 : ∀ u ∈ news, u.oneCell' = true)
    (h63 : n + m ≤ maxLen) (hbytes : (n + m) * bytes ≤ 140737488355328) (hbase : base ≤ w.heap.size)
    (h : ∀ v' w', w'.ownsRow base e 1 v' (n + m) (xs ++ news) → w.grownBy w' v.ownBlock → wpList P ops Q rest (a.put o.dst v') w') : wpList P ops Q (o :: rest) a w := by
  cases sa with
  | none =>
    have hn : news = [] := by
      by_cases hne : news = []
      · exact hne
      · obtain ⟨b, off, e, _⟩ := hnews hne; cases e
    subst hn
    obtain rfl : m = 0 := by simpa using hl.symm
    obtain rfl : c = 0 := hnil rfl
    refine wpList_append_own_none hgd s x t ho base e i 1 ht hi v n xs hs hown hx ?_
    exact h v w (by simpa using hown) ⟨rfl, rfl, rfl, Nat.le_refl _, fun _ _ _ => rfl⟩
  | some ad =>
    refine wpList_append_own w hgd s x t ho base e i z 1 bytes ht hi hz hsize hby hzs (by decide) v n xs hs hown ad m c news hx (by omega) ?_ h1 h63 hbytes hbase (fun v' w' h2 h3 _ => h v' w' h2 h3)
    intro j u hu
    have hne : news ≠ [] := by intro e; subst e; simp at hu
    obtain ⟨b, off, e, hc⟩ := hnews hne
    cases e
    have := hc j u hu
    rwa [show (⟨b, off, none⟩ : Addr).add j = ⟨b, off + j, none⟩ from by unfold Addr.add; split <;> simp_all]

theorem RowAt.nil (w : World) (a : Option Addr) : RowAt w a [] := fun h => absurd rfl h
theorem RowAt.kept {w w' : World} {a : Option Addr} {xs : List Value} (h : RowAt w a xs) (hk : ∀ b, b < w.heap.size → (∃ off sp, a = some ⟨b, off, sp⟩) → w'.heap[b]? = w.heap[b]?) : RowAt w' a xs := fun hx => by
  obtain ⟨b, off, e, hc⟩ := h hx
  refine ⟨b, off, e, fun j u hu => ?_⟩
  have hlt := cell_lt (hc j u hu)
  exact (World.cell?_of_block (a := ⟨b, off + j, none⟩) (hk b hlt ⟨off, none, e⟩)).trans (hc j u hu)
theorem RowAt.take {w : World} {a : Option Addr} {xs : List Value} (h : RowAt w a xs) (k : Nat) : RowAt w a (xs.take k) := fun hx => by
  obtain ⟨b, off, e, hc⟩ := h (by intro e; subst e; simp at hx)
  exact ⟨b, off, e, fun j u hu => hc j u (by rw [List.getElem?_take] at hu; split at hu; exact hu; cases hu)⟩
theorem RowAt.of_row {w : World} {g : Nat} {xs : List Value} (h : ∀ j u, xs[j]? = some u → w.cell? ⟨g, j, none⟩ = some u) : RowAt w (some ⟨g, 0, none⟩) xs := fun _ => ⟨g, 0, rfl, fun j u hu => by rw [Nat.zero_add]; exact h j u hu⟩

/-- where x[l:] begins -/
def subAt (a : Option Addr) (cap l : Nat) : Option Addr := if cap = l then a else a.map (·.add l)
theorem run_slice_lo {P : Program} (t e : TypeId) (ht : P.underlying t = some (.slice e)) (he : ∀ w, (sizeOf e).run P w = Result.ok 1 w) (a : Option Addr) (len cap l : Nat) (hl : l ≤ len) (w : World) :
    (Instr.slice t (.slice a len cap) (some (.int .i64 l)) none none).run P w = Result.ok (.slice (subAt a cap l) (len - l) (cap - l)) w := by
  have he' : P.elem t = e := by simp [Program.elem, ht]
  rw [run_slice_l (t := t) (ht := by rw [he']; exact ht) (kl := .i64) (h0 := by omega) (h1 := by omega), he', he]
  simp [Result.andThen, sliced, subAt]
theorem run_slice_hi {P : Program} (t e : TypeId) (ht : P.underlying t = some (.slice e)) (he : ∀ w, (sizeOf e).run P w = Result.ok 1 w) (a : Option Addr) (len cap h : Nat) (hh : h ≤ cap) (w : World) :
    (Instr.slice t (.slice a len cap) none (some (.int .i64 h)) none).run P w = Result.ok (.slice a h cap) w := by
  have he' : P.elem t = e := by simp [Program.elem, ht]
  rw [run_slice_h (t := t) (ht := by rw [he']; exact ht) (kh := .i64) (h0 := by omega) (h2 := by omega), he', he]
  simp [Result.andThen, sliced]
  intro _; cases a <;> simp [Addr.add]
theorem subAt_none {a : Option Addr} {cap l : Nat} : subAt a cap l = none ↔ a = none := by
  unfold subAt; split <;> simp
theorem RowAt.drop {w : World} {a : Option Addr} {xs : List Value} (h : RowAt w a xs) (cap l : Nat) (hc : xs.length ≤ cap) : RowAt w (subAt a cap l) (xs.drop l) := fun hx => by
  have hlt : l < xs.length := by
    rcases Nat.lt_or_ge l xs.length with h | h
    · exact h
    · exact absurd (List.drop_of_length_le h) hx
  obtain ⟨b, off, rfl, hc'⟩ := h (by intro e; subst e; simp at hlt)
  refine ⟨b, off + l, ?_, fun j u hu => ?_⟩
  · unfold subAt; rw [if_neg (by omega)]
    simp only [Option.map_some, Option.some.injEq]
    unfold Addr.add; split <;> simp_all
  · rw [List.getElem?_drop] at hu
    rw [Nat.add_assoc]; exact hc' _ u hu

theorem ownsRow_cap0 {w : World} {base : Nat} {e : TypeId} {size n m c : Nat} {a : Option Addr} {xs : List Value} (h : w.ownsRow base e size (.slice a m c) n xs) : a = none → c = 0 := by
  rcases h.2 with ⟨h, _⟩ | ⟨g, c', cur, h, _⟩
  · simp at h; intro _; exact h.2.2
  · simp at h; intro e; rw [e] at h; simp at h
theorem ownsRow_len_cap {w : World} {base : Nat} {e : TypeId} {size n m c : Nat} {a : Option Addr} {xs : List Value} (h : w.ownsRow base e size (.slice a m c) n xs) : m ≤ c := by
  rcases h.2 with ⟨h, _⟩ | ⟨g, c', cur, h, _, _, hle, _⟩
  · simp at h; omega
  · simp at h; omega

/-- a store into a row of the call's own -/
theorem ownsRow_set {w : World} {base : Nat} {e : TypeId} {v : Value} {n g : Nat} {xs : List Value} (h : w.ownsRow base e 1 v n xs) (hg : v.ownBlock = some g) (k : Nat) (hk : k < n) (u : Value) :
    (∃ u0, w.cell? ⟨g, k, none⟩ = some u0) ∧ w.frozen? ⟨g, k, none⟩ = false ∧ (w.setCell ⟨g, k, none⟩ u).ownsRow base e 1 v n (xs.set k u) := by
  have hl : xs.length = n := by have := h.1; omega
  rcases h.2 with ⟨rfl, _⟩ | ⟨g', cap, cur, rfl, hb, hh, h1, h2, h3, h4⟩
  · cases hg
  · simp [Value.ownBlock] at hg
    subst hg
    have hcur : k < cur.size := by omega
    refine ⟨⟨cur[k], by simp [World.cell?, hh, hcur]⟩, by simp [World.frozen?, hh], by simpa using hl, .inr ⟨g', cap, cur.setIfInBounds k u, rfl, hb, ?_, h1, h2, by simpa using h3, ?_⟩⟩
    · simp [World.setCell, Array.getElem?_modify, hh]
    · rw [← h4]; simp [Array.toList_setIfInBounds, List.take_set]

theorem keepsOthers_below {w w' : World} (h : Below w.heap.size w w') : KeepsOthers w w' :=
  ⟨h.size, fun k o ho _ => (h.block k (Array.getElem?_eq_some_iff.1 ho).1).trans ho⟩

end Go.Proofs.Ytgckcnnnblggbaa
