/- Texts of this claim, one behind the other: Lib, IaA, IaB, IaC, IaD. -/
import Derived.WalkKit
import Derived.RangeFuncBox
import Derived.WalkSpells
import Derived.WalkLawsBesides
import Derived.Lib.Hide
import Derived.Laws.AppendOwnNone
import Derived.Maps.OwnSet
import Derived.Maps.RangeWalk
import Derived.Laws.BitsAllLaws
import Derived.Test.YtljobojdcnhecaaRows
import Derived.Deep.QuietTactic
import Derived.BigQuiet
import Derived.Deep.RegionHeld3
import Derived.Deep.DrawnRows
import Derived.Deep.WholeRow
import Derived.Deep.MidRow
set_option linter.unusedSimpArgs false
set_option linter.unusedVariables false
set_option maxRecDepth 100000
namespace Go.Proofs.Ytljobojdcnhecaa
/- General lemmas, over any program: byte rows, strings, frames. -/
open Go.RowKit

/-- the value of a byte -/
def bv (b : UInt8) : Value := .int .u8 (b.toNat : Int)

theorem ret_int {k : IntKind} {a b : Int} (h : a = b) : Ending.returned (.int k a) = .returned (.int k b) := by rw [h]
theorem ret_bool {a b : Bool} (h : a = b) : Ending.returned (.bool a) = .returned (.bool b) := by rw [h]

theorem bv_one (b : UInt8) : (bv b).oneCell' = true := rfl

/-- a literal block of the call's own is a row -/
theorem ownsRow_lit (w : World) (base : Nat) (cur : Array Value) (e : TypeId) (size n : Nat) (hb : base ≤ w.heap.size) (hn : n ≤ maxLen) (hs : cur.size = n * size) :
    (w.alloc (.cells cur e)).ownsRow base e size (.slice (some ⟨w.heap.size, 0, none⟩) n n) n cur.toList :=
  ⟨by simpa using hs, .inr ⟨w.heap.size, n, cur, rfl, hb, World.alloc_heap_new w _, Nat.le_refl _, hn, hs, by rw [← hs, List.take_of_length_le (by simp)]⟩⟩

theorem cell_new (w : World) (c : Array Value) (e : TypeId) (i : Nat) (v : Value) (h : c[i]? = some v) : (w.alloc (.cells c e)).cell? ⟨w.heap.size, i, none⟩ = some v := by
  rw [World.cell?, show (w.alloc _).heap[w.heap.size]? = some _ from World.alloc_heap_new w _]
  simpa using h
theorem frozen_new (w : World) (c : Array Value) (e : TypeId) (i : Nat) : (w.alloc (.cells c e)).frozen? ⟨w.heap.size, i, none⟩ = false := by
  rw [World.frozen?, show (w.alloc _).heap[w.heap.size]? = some _ from World.alloc_heap_new w _]
  simp

/-- string(b), b a row of bytes of the call's own -/
theorem run_convert_row {P : Program} {w : World} {base : Nat} {ty : TypeId} {v : Value} {l : List UInt8} (src dst e : TypeId) (hs : P.underlying src = some (.slice e)) (he : P.underlying e = some (.int .u8)) (hd : P.underlying dst = some .string)
    (h : w.ownsRow base ty 1 v l.length (l.map bv)) : (convert src dst v).run P w = Result.ok (.string ⟨l.toArray⟩) w := by
  rcases h.2 with ⟨rfl, hn⟩ | ⟨g, cap, cur, rfl, _⟩
  · obtain rfl : l = [] := by simpa using hn
    exact run_convert_bytes_nil w src e hs he 0 0 dst hd
  · have hc := h.cells (g := g) rfl
    exact run_convert_bytes_back w src dst e ⟨g, 0, none⟩ cap l hs he hd (fun j hj => hc j _ (by simp [bv, hj]))

/-- []byte(s): a new block whose cells are the bytes -/
theorem run_bytes_of {P : Program} (src dst e : TypeId) (hs : P.underlying src = some .string) (hd : P.underlying dst = some (.slice e)) (he : P.underlying e = some (.int .u8)) (l : List UInt8) (w : World) :
    ∃ c O, (convert src dst (.string ⟨l.toArray⟩)).run P w = Result.ok (.slice (some ⟨w.heap.size, 0, none⟩) l.length c) ((w.alloc O).drew) ∧ l.length ≤ c ∧
      (∀ i (h : i < l.length), (w.alloc O).cell? ⟨w.heap.size, i, none⟩ = some (bv l[i])) ∧ (∀ i, i < l.length → (w.alloc O).frozen? ⟨w.heap.size, i, none⟩ = false) := by
  have hsz : (⟨l.toArray⟩ : ByteArray).size = l.length := by simp [ByteArray.size]
  refine ⟨grownCap w l.length 0 e, .cells (bytesRow ⟨l.toArray⟩ (grownCap w l.length 0 e)) e ((bytesRow ⟨l.toArray⟩ (grownCap w l.length 0 e)).size, (bytesRow ⟨l.toArray⟩ (grownCap w l.length 0 e)).size + 1), (run_bytes_of_string w src dst e ⟨l.toArray⟩ hs hd he).trans (by rw [hsz]; rfl), grownCap_ge _ _ _ _, ?_, ?_⟩
  · intro i h
    rw [World.cell?, show (w.alloc _).heap[w.heap.size]? = some _ from World.alloc_heap_new w _]
    simp [bytesRow, bv, Array.getElem?_append, h]
  · intro i h
    rw [World.frozen?, show (w.alloc _).heap[w.heap.size]? = some _ from World.alloc_heap_new w _]
    simp [bytesRow, ByteArray.size]
    omega

/-- a string's bytes from a place on -/
theorem run_slice_from {P : Program} (t : TypeId) (ht : P.underlying t = some .string) (l : List UInt8) (k : Nat) (hk : k ≤ l.length) (w : World) :
    (Instr.slice t (.string ⟨l.toArray⟩) (some (.int .i64 k)) none none).run P w = Result.ok (.string ⟨(l.drop k).toArray⟩) w := by
  rw [run_slice_string_l (t := t) (ht := ht) (kl := .i64) (h0 := by omega) (h1 := by simp [ByteArray.size]; omega)]
  have : (⟨l.toArray⟩ : ByteArray).extract k (⟨l.toArray⟩ : ByteArray).size = ⟨(l.drop k).toArray⟩ := by
    apply ByteArray.ext
    simp [ByteArray.size]
    exact List.take_of_length_le (by simp)
  simpa using this

theorem run_index_str {P : Program} (t : TypeId) (ht : P.underlying t = some .string) (l : List UInt8) (k : Nat) (hk : k < l.length) (w : World) :
    (Instr.index t (.string ⟨l.toArray⟩) (.int .i64 k)).run P w = Result.ok (bv l[k]) w := by
  rw [run_index_string (t := t) (k := .i64) (h := ht), dif_pos ⟨by omega, by simp [ByteArray.size]; omega⟩]
  simp [bv]
  rfl

/-- the value of a string -/
def sv (l : List UInt8) : Value := .string ⟨l.toArray⟩
/-- a slice whose elements, of one cell each, are xs; an empty one may lie anywhere -/
def RowAt (w : World) (a : Option Addr) (xs : List Value) : Prop := xs ≠ [] → ∃ b off, a = some ⟨b, off, none⟩ ∧ ∀ j u, xs[j]? = some u → w.cell? ⟨b, off + j, none⟩ = some u

theorem cell_lt {w : World} {a : Addr} {v : Value} (h : w.cell? a = some v) : a.block < w.heap.size := by
  unfold World.cell? at h
  split at h
  · rename_i hb; exact (Array.getElem?_eq_some_iff.1 hb).1
  · cases h
theorem RowAt.below {w w' : World} {a : Option Addr} {xs : List Value} (h : RowAt w a xs) (hb : Below w.heap.size w w') : RowAt w' a xs := fun hx => by
  obtain ⟨b, off, e, hc⟩ := h hx
  exact ⟨b, off, e, fun j u hu => (hb.cell (p := ⟨b, off + j, none⟩) (cell_lt (hc j u hu))).trans (hc j u hu)⟩
theorem RowAt.at_ {w : World} {a : Option Addr} {xs : List Value} (h : RowAt w a xs) {k : Nat} (hk : k < xs.length) : ∃ b off, a = some ⟨b, off, none⟩ ∧ w.cell? ⟨b, off + k, none⟩ = some xs[k] := by
  obtain ⟨b, off, e, hc⟩ := h (by intro e; subst e; simp at hk)
  exact ⟨b, off, e, hc k _ (List.getElem?_eq_getElem hk)⟩
theorem addr_add (g j : Nat) : (⟨g, 0, none⟩ : Addr).add j = ⟨g, j, none⟩ := by unfold Addr.add; split <;> simp_all
theorem RowAt.of_owns {w : World} {base : Nat} {e : TypeId} {v : Value} {n : Nat} {xs : List Value} (h : w.ownsRow base e 1 v n xs) : ∃ a cap, v = .slice a n cap ∧ RowAt w a xs ∧ xs.length = n := by
  have hl : xs.length = n := by have := h.1; omega
  rcases h.2 with ⟨rfl, rfl⟩ | ⟨g, cap, cur, rfl, _⟩
  · exact ⟨none, 0, rfl, fun hx => absurd (List.length_eq_zero_iff.1 hl) hx, hl⟩
  · have hc := h.cells (g := g) rfl
    exact ⟨_, cap, rfl, fun _ => ⟨g, 0, rfl, fun j u hu => by have h := hc j u hu; rw [addr_add] at h; rw [Nat.zero_add]; exact h⟩, hl⟩

theorem ownsRow_base_le {w : World} {base base' : Nat} {e : TypeId} {size : Nat} {v : Value} {n : Nat} {xs : List Value} (h : w.ownsRow base e size v n xs) (hb : base' ≤ base) : w.ownsRow base' e size v n xs := by
  obtain ⟨h1, h2⟩ := h
  refine ⟨h1, h2.imp id ?_⟩
  rintro ⟨g, cap, cur, rfl, h3, h4⟩
  exact ⟨g, cap, cur, rfl, Nat.le_trans hb h3, h4⟩
theorem wf_i64 {x : Int} (h0 : -9223372036854775808 ≤ x) (h1 : x ≤ 9223372036854775807) : (Lit.int .i64 x).wf = true := by
  have e1 : IntKind.i64.min = -9223372036854775808 := by decide
  have e2 : IntKind.i64.max = 9223372036854775807 := by decide
  simp [Lit.wf, e1, e2]; omega
theorem i64_of_wf {x : Int} (h : (Lit.int .i64 x).wf = true) : -9223372036854775808 ≤ x ∧ x ≤ 9223372036854775807 := by
  have e1 : IntKind.i64.min = -9223372036854775808 := by decide
  have e2 : IntKind.i64.max = 9223372036854775807 := by decide
  simp [Lit.wf, e1, e2] at h; omega
theorem u8_of_wf {x : Int} (h : (Lit.int .u8 x).wf = true) : 0 ≤ x ∧ x < 256 := by
  have e1 : IntKind.u8.min = 0 := by decide
  have e2 : IntKind.u8.max = 255 := by decide
  simp [Lit.wf, e1, e2] at h; omega
/-- one step behind another -/
theorem bthen {a b c : World} (h : Below a.heap.size a b) (k : Below b.heap.size b c) : Below a.heap.size a c := h.trans (k.mono h.size)
theorem Below.grownBy {w w' : World} {row : Option Nat} (h : Below w.heap.size w w') : w.grownBy w' row := ⟨h.os, h.tape, h.output, h.size, fun k hk _ => h.block k hk⟩

/-- append onto a row of the call's own, from whatever slice of one-cell elements -/
theorem wpList_append_any {P : Program} (w : World) {ops : Array Oper} {rest : List Oper} {o : Oper} {a : Act} {Q : Exit → Act → World → Prop} (hgd : o.guard = none) (s x : Operand) (t : TypeId)
    (ho : o.op = .call { callee := .builtin .append, args := #[s, x], argTypes := #[t, t] })
    (base : Nat) (e : TypeId) (i : TypeInfo) (z : Value) (bytes : Nat) (ht : P.underlying t = some (.slice e)) (hi : P.info? e = some i) (hz : i.zero = some z)
    (hsize : i.size = 1) (hby : i.bytes = bytes) (hzs : z.cells.size = 1)
    (v : Value) (n : Nat) (xs : List Value) (hs : a.eval s = v) (hown : w.ownsRow base e 1 v n xs)
    (sa : Option Addr) (m c : Nat) (news : List Value) (hx : a.eval x = .slice sa m c) (hl : news.length = m) (hnil : sa = none → c = 0) (hnews : RowAt w sa news) (h1 : ∀ u ∈ news, u.oneCell' = true)
    (h63 : n + m ≤ maxLen) (hbytes : (n + m) * bytes ≤ 140737488355328) (hbase : base ≤ w.heap.size)
    (h : ∀ v' w', w'.ownsRow base e 1 v' (n + m) (xs ++ news) → w.grownBy w' v.ownBlock → wpList P ops Q rest (a.put o.dst v') w') : wpList P ops Q (o :: rest) a w := by
  cases sa with
  | none =>
    have hn : news = [] := by
      by_cases hne : news = []
      · exact hne
      · obtain ⟨b, off, e, _⟩ := hnews hne; cases e
    subst hn
    obtain rfl : m = 0 := by simpa using hl.symm
    obtain rfl : c = 0 := hnil rfl
    refine wpList_append_own_none hgd s x t ho base e i 1 ht hi v n xs hs hown hx ?_
    exact h v w (by simpa using hown) ⟨rfl, rfl, rfl, Nat.le_refl _, fun _ _ _ => rfl⟩
  | some ad =>
    refine wpList_append_own w hgd s x t ho base e i z 1 bytes ht hi hz hsize hby hzs (by decide) v n xs hs hown ad m c news hx (by omega) ?_ h1 h63 hbytes hbase (fun v' w' h2 h3 _ => h v' w' h2 h3)
    intro j u hu
    have hne : news ≠ [] := by intro e; subst e; simp at hu
    obtain ⟨b, off, e, hc⟩ := hnews hne
    cases e
    have := hc j u hu
    rwa [show (⟨b, off, none⟩ : Addr).add j = ⟨b, off + j, none⟩ from by unfold Addr.add; split <;> simp_all]

theorem RowAt.nil (w : World) (a : Option Addr) : RowAt w a [] := fun h => absurd rfl h
theorem RowAt.kept {w w' : World} {a : Option Addr} {xs : List Value} (h : RowAt w a xs) (hk : ∀ b, b < w.heap.size → (∃ off sp, a = some ⟨b, off, sp⟩) → w'.heap[b]? = w.heap[b]?) : RowAt w' a xs := fun hx => by
  obtain ⟨b, off, e, hc⟩ := h hx
  refine ⟨b, off, e, fun j u hu => ?_⟩
  have hlt := cell_lt (hc j u hu)
  exact (World.cell?_of_block (a := ⟨b, off + j, none⟩) (hk b hlt ⟨off, none, e⟩)).trans (hc j u hu)
theorem RowAt.take {w : World} {a : Option Addr} {xs : List Value} (h : RowAt w a xs) (k : Nat) : RowAt w a (xs.take k) := fun hx => by
  obtain ⟨b, off, e, hc⟩ := h (by intro e; subst e; simp at hx)
  exact ⟨b, off, e, fun j u hu => hc j u (by rw [List.getElem?_take] at hu; split at hu; exact hu; cases hu)⟩
theorem RowAt.of_row {w : World} {g : Nat} {xs : List Value} (h : ∀ j u, xs[j]? = some u → w.cell? ⟨g, j, none⟩ = some u) : RowAt w (some ⟨g, 0, none⟩) xs := fun _ => ⟨g, 0, rfl, fun j u hu => by rw [Nat.zero_add]; exact h j u hu⟩

/-- where x[l:] begins -/
def subAt (a : Option Addr) (cap l : Nat) : Option Addr := if cap = l then a else a.map (·.add l)
theorem run_slice_lo {P : Program} (t e : TypeId) (ht : P.underlying t = some (.slice e)) (he : ∀ w, (sizeOf e).run P w = Result.ok 1 w) (a : Option Addr) (len cap l : Nat) (hl : l ≤ len) (w : World) :
    (Instr.slice t (.slice a len cap) (some (.int .i64 l)) none none).run P w = Result.ok (.slice (subAt a cap l) (len - l) (cap - l)) w := by
  have he' : P.elem t = e := by simp [Program.elem, ht]
  rw [run_slice_l (t := t) (ht := by rw [he']; exact ht) (kl := .i64) (h0 := by omega) (h1 := by omega), he', he]
  simp [Result.andThen, sliced, subAt]
theorem run_slice_hi {P : Program} (t e : TypeId) (ht : P.underlying t = some (.slice e)) (he : ∀ w, (sizeOf e).run P w = Result.ok 1 w) (a : Option Addr) (len cap h : Nat) (hh : h ≤ cap) (w : World) :
    (Instr.slice t (.slice a len cap) none (some (.int .i64 h)) none).run P w = Result.ok (.slice a h cap) w := by
  have he' : P.elem t = e := by simp [Program.elem, ht]
  rw [run_slice_h (t := t) (ht := by rw [he']; exact ht) (kh := .i64) (h0 := by omega) (h2 := by omega), he', he]
  simp [Result.andThen, sliced]
  intro _; cases a <;> simp [Addr.add]
theorem subAt_none {a : Option Addr} {cap l : Nat} : subAt a cap l = none ↔ a = none := by
  unfold subAt; split <;> simp
theorem RowAt.drop {w : World} {a : Option Addr} {xs : List Value} (h : RowAt w a xs) (cap l : Nat) (hc : xs.length ≤ cap) : RowAt w (subAt a cap l) (xs.drop l) := fun hx => by
  have hlt : l < xs.length := by
    rcases Nat.lt_or_ge l xs.length with h | h
    · exact h
    · exact absurd (List.drop_of_length_le h) hx
  obtain ⟨b, off, rfl, hc'⟩ := h (by intro e; subst e; simp at hlt)
  refine ⟨b, off + l, ?_, fun j u hu => ?_⟩
  · unfold subAt; rw [if_neg (by omega)]
    simp only [Option.map_some, Option.some.injEq]
    unfold Addr.add; split <;> simp_all
  · rw [List.getElem?_drop] at hu
    rw [Nat.add_assoc]; exact hc' _ u hu

theorem ownsRow_cap0 {w : World} {base : Nat} {e : TypeId} {size n m c : Nat} {a : Option Addr} {xs : List Value} (h : w.ownsRow base e size (.slice a m c) n xs) : a = none → c = 0 := by
  rcases h.2 with ⟨h, _⟩ | ⟨g, c', cur, h, _⟩
  · simp at h; intro _; exact h.2.2
  · simp at h; intro e; rw [e] at h; simp at h
theorem ownsRow_len_cap {w : World} {base : Nat} {e : TypeId} {size n m c : Nat} {a : Option Addr} {xs : List Value} (h : w.ownsRow base e size (.slice a m c) n xs) : m ≤ c := by
  rcases h.2 with ⟨h, _⟩ | ⟨g, c', cur, h, _, _, hle, _⟩
  · simp at h; omega
  · simp at h; omega

/-- a store into a row of the call's own -/
theorem ownsRow_set {w : World} {base : Nat} {e : TypeId} {v : Value} {n g : Nat} {xs : List Value} (h : w.ownsRow base e 1 v n xs) (hg : v.ownBlock = some g) (k : Nat) (hk : k < n) (u : Value) :
    (∃ u0, w.cell? ⟨g, k, none⟩ = some u0) ∧ w.frozen? ⟨g, k, none⟩ = false ∧ (w.setCell ⟨g, k, none⟩ u).ownsRow base e 1 v n (xs.set k u) := by
  have hl : xs.length = n := by have := h.1; omega
  rcases h.2 with ⟨rfl, _⟩ | ⟨g', cap, cur, rfl, hb, hh, h1, h2, h3, h4⟩
  · cases hg
  · simp [Value.ownBlock] at hg
    subst hg
    have hcur : k < cur.size := by omega
    refine ⟨⟨cur[k], by simp [World.cell?, hh, hcur]⟩, by simp [World.frozen?, hh], by simpa using hl, .inr ⟨g', cap, cur.setIfInBounds k u, rfl, hb, ?_, h1, h2, by simpa using h3, ?_⟩⟩
    · simp [World.setCell, Array.getElem?_modify, hh]
    · rw [← h4]; simp [Array.toList_setIfInBounds, List.take_set]

theorem keepsOthers_below {w w' : World} (h : Below w.heap.size w w') : KeepsOthers w w' :=
  ⟨h.size, fun k o ho _ => (h.block k (Array.getElem?_eq_some_iff.1 ho).1).trans ho⟩

/- Memory: what a step may change; blocks. -/
open Go.RowKit Go.Maps

/-! ### what a step may change -/
/-- w' is w but for the blocks of O, and new ones -/
structure Chg (O : Nat → Prop) (w w' : World) : Prop where
  os : w'.os = w.os
  tape : w'.tape = w.tape
  output : w'.output = w.output
  size : w.heap.size ≤ w'.heap.size
  block : ∀ k, k < w.heap.size → ¬ O k → w'.heap[k]? = w.heap[k]?
theorem Chg.refl (O : Nat → Prop) (w : World) : Chg O w w := ⟨rfl, rfl, rfl, Nat.le_refl _, fun _ _ _ => rfl⟩
theorem Chg.of_below {O : Nat → Prop} {w w' : World} (h : Below w.heap.size w w') : Chg O w w' := ⟨h.os, h.tape, h.output, h.size, fun k hk _ => h.block k hk⟩
theorem Chg.below {O : Nat → Prop} {w w' : World} (h : Chg O w w') (hO : ∀ k, O k → w.heap.size ≤ k) : Below w.heap.size w w' := ⟨h.os, h.tape, h.output, h.size, fun k hk => h.block k hk (fun ho => by have := hO k ho; omega)⟩
theorem Chg.of_grown {O : Nat → Prop} {w w' : World} {row : Option Nat} (h : w.grownBy w' row) (hr : ∀ k, row = some k → k < w.heap.size → O k) : Chg O w w' :=
  ⟨h.os, h.tape, h.output, h.size, fun k hk hO => h.block k hk (fun e => hO (hr k e.symm hk))⟩
theorem Chg.trans {O O' : Nat → Prop} {a b c : World} (h : Chg O a b) (k : Chg O' b c) (hO : ∀ x, O' x → x < a.heap.size → O x) : Chg O a c :=
  ⟨k.os.trans h.os, k.tape.trans h.tape, k.output.trans h.output, Nat.le_trans h.size k.size, fun x hx hn => (k.block x (Nat.lt_of_lt_of_le hx h.size) (fun hx' => hn (hO x hx' hx))).trans (h.block x hx hn)⟩
theorem Chg.mono {O O' : Nat → Prop} {a b : World} (h : Chg O a b) (hO : ∀ x, O x → x < a.heap.size → O' x) : Chg O' a b := (Chg.refl O' a).trans h hO
theorem Chg.set {O : Nat → Prop} {w : World} {a : Addr} (v : Value) (h : O a.block) : Chg O w (w.setCell a v) :=
  ⟨rfl, rfl, rfl, by simp [World.setCell], fun k _ hk => by
    have hne : k ≠ a.block := fun e => hk (e ▸ h)
    simp [World.setCell, Array.getElem?_modify, Ne.symm hne]⟩
theorem Chg.alloc (O : Nat → Prop) (w : World) (o : Obj) : Chg O w (w.alloc o) := .of_grown (World.grownBy_alloc w o none) (by simp)
theorem Chg.drew {O : Nat → Prop} {w w' : World} (h : Chg O w w') : Chg O w w'.drew := ⟨h.os, h.tape, h.output, h.size, h.block⟩
theorem Chg.turned {O : Nat → Prop} {w w' : World} {b : Nat} (h : w.mapTurned w' b) (hb : O b) : Chg O w w' := .of_grown h.grown (fun k e _ => by cases e; exact hb)
theorem Chg.cell {O : Nat → Prop} {w w' : World} (h : Chg O w w') {a : Addr} {v : Value} (hc : w.cell? a = some v) (hO : ¬ O a.block) : w'.cell? a = some v :=
  (World.cell?_of_block (h.block a.block (cell_lt hc) hO)).trans hc
theorem heap_lt {w : World} {b : Nat} {o : Obj} (h : w.heap[b]? = some o) : b < w.heap.size := (Array.getElem?_eq_some_iff.1 h).1
theorem Chg.obj {O : Nat → Prop} {w w' : World} (h : Chg O w w') {b : Nat} {o : Obj} (hb : w.heap[b]? = some o) (hO : ¬ O b) : w'.heap[b]? = some o := (h.block b (heap_lt hb) hO).trans hb
theorem Chg.map {O : Nat → Prop} {w w' : World} (h : Chg O w w') {P : Program} {k : TypeId} {R : Value → Option (DataW Unit × List MemPlace)} {b n : Nat} {D : DataW Unit} (hm : w.ownsMap P k R b n D) (hO : ¬ O b) : w'.ownsMap P k R b n D := by
  obtain ⟨es, c, hb, r⟩ := hm
  exact ⟨es, c, h.obj hb hO, r⟩
theorem Chg.row {O : Nat → Prop} {w w' : World} (h : Chg O w w') {base : Nat} {e : TypeId} {size n : Nat} {v : Value} {xs : List Value} (hr : w.ownsRow base e size v n xs) (hO : ∀ k, v.ownBlock = some k → ¬ O k) : w'.ownsRow base e size v n xs := by
  obtain ⟨h1, h2⟩ := hr
  refine ⟨h1, h2.imp id ?_⟩
  rintro ⟨g, cap, cur, rfl, h3, h4, h5⟩
  exact ⟨g, cap, cur, rfl, h3, h.obj h4 (hO g rfl), h5⟩
theorem heap_set_cells {w : World} {p i : Nat} {cs : Array Value} {e : TypeId} {f : Nat × Nat} (v : Value) (h : w.heap[p]? = some (.cells cs e f)) : (w.setCell ⟨p, i, none⟩ v).heap[p]? = some (.cells (cs.setIfInBounds i v) e f) := by
  simp [World.setCell, Array.getElem?_modify, h]
theorem cell_of_heap {w : World} {p i : Nat} {cs : Array Value} {e : TypeId} {f : Nat × Nat} {v : Value} (h : w.heap[p]? = some (.cells cs e f)) (hv : cs[i]? = some v) : w.cell? ⟨p, i, none⟩ = some v := by simp [World.cell?, h, hv]
theorem frozen_of_heap {w : World} {p i : Nat} {cs : Array Value} {e : TypeId} (h : w.heap[p]? = some (.cells cs e (0, 0))) : w.frozen? ⟨p, i, none⟩ = false := by simp [World.frozen?, h]
theorem below_alloc (w : World) (o : Obj) : Below w.heap.size w (w.alloc o) := (Below.refl _ w).alloc (Nat.le_refl _) _
theorem below_alloc_drew (w : World) (o : Obj) : Below w.heap.size w (w.alloc o).drew := let b := below_alloc w o; ⟨b.os, b.tape, b.output, b.size, b.block⟩
theorem Chg.drewN {O : Nat → Prop} {w w' : World} (h : Chg O w w') (q : Nat) : Chg O w (w'.drewN q) := ⟨h.os, h.tape, h.output, h.size, h.block⟩

/- Sha: the plain law of a block's turn and of a sum. -/

def rotr (x : UInt32) (n : Nat) : UInt32 := (x >>> UInt32.ofNat n) ||| (x <<< UInt32.ofNat (32 - n))
def sg0 (x : UInt32) : UInt32 := rotr x 7 ^^^ rotr x 18 ^^^ (x >>> 3)
def sg1 (x : UInt32) : UInt32 := rotr x 17 ^^^ rotr x 19 ^^^ (x >>> 10)
def Sg0 (x : UInt32) : UInt32 := rotr x 2 ^^^ rotr x 13 ^^^ rotr x 22
def Sg1 (x : UInt32) : UInt32 := rotr x 6 ^^^ rotr x 11 ^^^ rotr x 25
def shaK : List UInt32 := [
  0x428a2f98, 0x71374491, 0xb5c0fbcf, 0xe9b5dba5, 0x3956c25b, 0x59f111f1, 0x923f82a4, 0xab1c5ed5,
  0xd807aa98, 0x12835b01, 0x243185be, 0x550c7dc3, 0x72be5d74, 0x80deb1fe, 0x9bdc06a7, 0xc19bf174,
  0xe49b69c1, 0xefbe4786, 0x0fc19dc6, 0x240ca1cc, 0x2de92c6f, 0x4a7484aa, 0x5cb0a9dc, 0x76f988da,
  0x983e5152, 0xa831c66d, 0xb00327c8, 0xbf597fc7, 0xc6e00bf3, 0xd5a79147, 0x06ca6351, 0x14292967,
  0x27b70a85, 0x2e1b2138, 0x4d2c6dfc, 0x53380d13, 0x650a7354, 0x766a0abb, 0x81c2c92e, 0x92722c85,
  0xa2bfe8a1, 0xa81a664b, 0xc24b8b70, 0xc76c51a3, 0xd192e819, 0xd6990624, 0xf40e3585, 0x106aa070,
  0x19a4c116, 0x1e376c08, 0x2748774c, 0x34b0bcb5, 0x391c0cb3, 0x4ed8aa4a, 0x5b9cca4f, 0x682e6ff3,
  0x748f82ee, 0x78a5636f, 0x84c87814, 0x8cc70208, 0x90befffa, 0xa4506ceb, 0xbef9a3f7, 0xc67178f2]
def sha0 : List UInt32 := [0x6a09e667, 0xbb67ae85, 0x3c6ef372, 0xa54ff53a, 0x510e527f, 0x9b05688c, 0x1f83d9ab, 0x5be0cd19]
theorem shaK_len : shaK.length = 64 := rfl
/-- four bytes, the highest first -/
def word4 (l : List UInt8) : UInt32 := l.foldl (fun x c => (x <<< 8) ||| c.toUInt32) 0
/-- the words of a block -/
def words16 : Nat → List UInt8 → List UInt32
  | 0, _ => []
  | n + 1, l => word4 (l.take 4) :: words16 n (l.drop 4)
/-- the next word -/
def nextW (L : List UInt32) (t : Nat) : UInt32 := L.getD (t - 16) 0 + L.getD (t - 7) 0 + sg0 (L.getD (t - 15) 0) + sg1 (L.getD (t - 2) 0)
def sched (b : List UInt8) : Nat → List UInt32
  | 0 => words16 16 b
  | n + 1 => sched b n ++ [nextW (sched b n) (16 + n)]
def rnd (k w : UInt32) : List UInt32 → List UInt32
  | [a, b, c, d, e, f, g, h] =>
    let x := h + Sg1 e + ((e &&& f) ^^^ (~~~ e &&& g)) + k + w
    let y := Sg0 a + ((a &&& b) ^^^ (a &&& c) ^^^ (b &&& c))
    [x + y, a, b, c, d + x, e, f, g]
  | l => l
def rounds (v W : List UInt32) : Nat → List UInt32
  | 0 => v
  | t + 1 => rnd (shaK.getD t 0) (W.getD t 0) (rounds v W t)
/-- a block turns a state -/
def turn (v : List UInt32) (b : List UInt8) : List UInt32 := List.zipWith (· + ·) (rounds v (sched b 48) 64) v
/-- all whole blocks -/
def turnsBy (T : List UInt32 → List UInt8 → List UInt32) : Nat → List UInt32 → List UInt8 → List UInt32
  | 0, v, _ => v
  | n + 1, v, l => turnsBy T n (T v (l.take 64)) (l.drop 64)
def turns (v : List UInt32) (l : List UInt8) (n : Nat) : List UInt32 := turnsBy turn n v l
def be4 (x : UInt32) : List UInt8 := [(x >>> 24).toUInt8, (x >>> 16).toUInt8, (x >>> 8).toUInt8, x.toUInt8]
def be8 (n : Nat) : List UInt8 := [56, 48, 40, 32, 24, 16, 8, 0].map fun i => UInt8.ofNat (n / 2 ^ i)
/-- how many noughts -/
def shaZ (n : Nat) : Nat := (119 - n % 64) % 64
def padded (l : List UInt8) : List UInt8 := l ++ 128 :: (List.replicate (shaZ l.length) 0 ++ be8 (8 * l.length))
/-- THE SUM OF BYTES -/
def sha (l : List UInt8) : List UInt8 := (turns sha0 (padded l) ((padded l).length / 64)).flatMap be4
/-- an entry's hash -/
def leaf (l : List UInt8) : List UInt8 := sha (0 :: l)

theorem rnd_len {k w : UInt32} {v : List UInt32} (h : v.length = 8) : (rnd k w v).length = 8 := by
  match v, h with
  | [a, b, c, d, e, f, g, i], _ => rfl
theorem rounds_len {v W : List UInt32} (h : v.length = 8) : ∀ t, (rounds v W t).length = 8
  | 0 => h
  | t + 1 => rnd_len (rounds_len h t)
theorem turn_len {v : List UInt32} {b : List UInt8} (h : v.length = 8) : (turn v b).length = 8 := by simp [turn, rounds_len h, h]
theorem words16_len : ∀ n (l : List UInt8), (words16 n l).length = n
  | 0, _ => rfl
  | n + 1, l => by simp [words16, words16_len n]
theorem sched_len (b : List UInt8) : ∀ n, (sched b n).length = 16 + n
  | 0 => words16_len 16 b
  | n + 1 => by simp [sched, sched_len b n]; omega
theorem sched_pre (b : List UInt8) : ∀ n m i, i < 16 + n → (sched b (n + m)).getD i 0 = (sched b n).getD i 0
  | n, 0, i, _ => rfl
  | n, m + 1, i, h => by
    rw [show n + (m + 1) = (n + m) + 1 from rfl, sched, List.getD_eq_getElem?_getD, List.getElem?_append_left (by rw [sched_len]; omega), ← List.getD_eq_getElem?_getD]
    exact sched_pre b n m i h
theorem turnsBy_len {T : List UInt32 → List UInt8 → List UInt32} (hT : ∀ v b, v.length = 8 → (T v b).length = 8) : ∀ n v l, v.length = 8 → (turnsBy T n v l).length = 8
  | 0, _, _, h => h
  | n + 1, _, _, h => turnsBy_len hT n _ _ (hT _ _ h)
theorem turns_len (n : Nat) {v : List UInt32} {l : List UInt8} (h : v.length = 8) : (turns v l n).length = 8 := turnsBy_len (fun _ _ => turn_len) n v l h
theorem words16_get : ∀ n (l : List UInt8) i, i < n → (words16 n l).getD i 0 = word4 ((l.drop (4 * i)).take 4)
  | 0, _, _, h => by omega
  | n + 1, l, 0, _ => rfl
  | n + 1, l, i + 1, h => by
    rw [words16, List.getD_cons_succ, words16_get n _ i (by omega), List.drop_drop, show 4 + 4 * i = 4 * (i + 1) from by omega]
theorem turnsBy_succ (T : List UInt32 → List UInt8 → List UInt32) (v : List UInt32) (l : List UInt8) (n : Nat) : turnsBy T (n + 1) v l = turnsBy T n (T v (l.take 64)) (l.drop 64) := rfl
theorem turnsBy_app (T : List UInt32 → List UInt8 → List UInt32) (n : Nat) : ∀ (v : List UInt32) (l r : List UInt8), 64 * n ≤ l.length → turnsBy T n v (l ++ r) = turnsBy T n v l := by
  induction n with
  | zero => intros; rfl
  | succ n ih =>
    intro v l r h
    rw [turnsBy_succ, turnsBy_succ, List.take_append_of_le_length (by omega), List.drop_append_of_le_length (by omega)]
    exact ih _ _ r (by rw [List.length_drop]; omega)
theorem turnsBy_add (T : List UInt32 → List UInt8 → List UInt32) (n m : Nat) : ∀ (v : List UInt32) (l : List UInt8), turnsBy T (n + m) v l = turnsBy T m (turnsBy T n v l) (l.drop (64 * n)) := by
  induction n with
  | zero => intro v l; rw [Nat.zero_add, Nat.mul_zero, List.drop_zero]; rfl
  | succ n ih =>
    intro v l
    rw [show n + 1 + m = (n + m) + 1 from by omega, turnsBy_succ, ih, turnsBy_succ, List.drop_drop, show 64 + 64 * n = 64 * (n + 1) from by omega]
theorem turnsBy_one (T : List UInt32 → List UInt8 → List UInt32) (v : List UInt32) (b : List UInt8) (hb : b.length = 64) : turnsBy T 1 v b = T v b := by
  rw [turnsBy_succ, List.take_of_length_le (by omega)]; rfl
theorem turns_app (n : Nat) (v : List UInt32) (l r : List UInt8) (h : 64 * n ≤ l.length) : turns v (l ++ r) n = turns v l n := turnsBy_app _ n v l r h
theorem turns_snoc (n : Nat) (v : List UInt32) (l b : List UInt8) (h : l.length = 64 * n) (hb : b.length = 64) : turns v (l ++ b) (n + 1) = turn (turns v l n) b := by
  unfold turns
  rw [turnsBy_add _ n 1, turnsBy_app _ n _ _ _ (by omega), List.drop_append_of_le_length (by omega), List.drop_of_length_le (by omega), List.nil_append, turnsBy_one _ _ _ hb]
theorem padded_len (l : List UInt8) : (padded l).length % 64 = 0 := by
  simp [padded, be8, shaZ]; omega
theorem flat_be4_len : ∀ (v : List UInt32), (v.flatMap be4).length = 4 * v.length
  | [] => rfl
  | x :: v => by rw [List.flatMap_cons, List.length_append, flat_be4_len v]; simp [be4]; omega
theorem sha0_len : sha0.length = 8 := rfl
theorem sha_len (l : List UInt8) : (sha l).length = 32 := by
  rw [sha, flat_be4_len, turns_len _ sha0_len]
theorem leaf_len (l : List UInt8) : (leaf l).length = 32 := sha_len _

/- Sha: words of 32 bits as the program reckons with them. -/

theorem u_lt (x : UInt32) : x.toNat < 4294967296 := x.toNat_lt
theorem u_xor (a b : UInt32) : bits .xor .u32 (a.toNat : Int) (b.toNat : Int) = ((a ^^^ b).toNat : Int) := by rw [u32_xor_nat _ _ (u_lt a) (u_lt b), UInt32.toNat_xor]
theorem u_and (a b : UInt32) : bits .and .u32 (a.toNat : Int) (b.toNat : Int) = ((a &&& b).toNat : Int) := by rw [u32_and_nat _ _ (u_lt a) (u_lt b), UInt32.toNat_and]
theorem u_or (a b : UInt32) : bits .or .u32 (a.toNat : Int) (b.toNat : Int) = ((a ||| b).toNat : Int) := by rw [u32_or_nat _ _ (u_lt a) (u_lt b), UInt32.toNat_or]
theorem u_add (a b : UInt32) : IntKind.u32.wrap ((a.toNat : Int) + (b.toNat : Int)) = ((a + b).toNat : Int) := by rw [IntKind.wrap_u32', UInt32.toNat_add]; omega

theorem rot_and (m n : Nat) (h0 : 0 < n) (h1 : m + n = 32) : bits .and .u64 (IntKind.u64.wrap (-(n : Int))) 31 = (m : Int) := by
  rw [show IntKind.u64.wrap (-(n : Int)) = ((18446744073709551616 - n : Nat) : Int) from by rw [IntKind.wrap_u64]; omega]
  rw [show (31 : Int) = ((31 : Nat) : Int) from rfl, u64_and_nat _ _ (by omega) (by omega), nat_mask5]
  omega
theorem rot_or (x : UInt32) (m n : Nat) (h0 : 0 < n) (h1 : m + n = 32) (hm : 0 < m) : bits .or .u32 ((x.toNat : Int) * 2 ^ m % 4294967296) ((x.toNat : Int) / 2 ^ n) = ((rotr x n).toNat : Int) := by
  have hx := u_lt x
  have e1 : ((x.toNat : Int) * 2 ^ m % 4294967296) = ((x.toNat * 2 ^ m % 4294967296 : Nat) : Int) := by rw [Int.natCast_emod, Int.natCast_mul, Int.natCast_pow]; rfl
  have e2 : ((x.toNat : Int) / 2 ^ n) = ((x.toNat / 2 ^ n : Nat) : Int) := by push_cast; rfl
  rw [e1, e2, u32_or_nat _ _ (Nat.mod_lt _ (by omega)) (Nat.lt_of_le_of_lt (Nat.div_le_self _ _) hx)]
  unfold rotr
  obtain rfl : m = 32 - n := by omega
  rw [UInt32.toNat_or, UInt32.toNat_shiftRight, UInt32.toNat_shiftLeft, UInt32.toNat_ofNat', UInt32.toNat_ofNat', Nat.shiftRight_eq_div_pow, Nat.shiftLeft_eq, Nat.or_comm]
  rw [show n % 2 ^ 32 % 32 = n from by omega, show (32 - n) % 2 ^ 32 % 32 = 32 - n from by omega]
theorem rotl_any (x : UInt32) (m n : Nat) (h0 : 0 < n) (h1 : m + n = 32) (hm : 0 < m) (w : World) : Calls Try.prog 90 #[.int .u32 (x.toNat : Int), .int .i64 (-(n : Int))] w fun e w' => e = .returned (.int .u32 ((rotr x n).toNat : Int)) ∧ w = w' := by
  have hA := rot_and m n h0 h1
  have hO := rot_or x m n h0 h1 hm
  have hn : (32 : Int) - m = n := by omega
  have hm0 : (0:Int) ≤ m := by omega
  have hm1 : (m:Int) < 32 := by omega
  go_enter Try.func90, Try.ntmps90
  go_wp2
  go_ret
  exact ⟨rfl, rfl⟩
theorem rot_any (x : UInt32) (n : Nat) (h0 : 0 < n) (h1 : n < 32) (w : World) : Calls Try.prog 88 #[.int .u32 (x.toNat : Int), .int .i64 (n : Int)] w fun e w' => e = .returned (.int .u32 ((rotr x n).toNat : Int)) ∧ w = w' := by
  have cR := fun w => rotl_any x (32 - n) n h0 (by omega) (by omega) w
  have h2 : (0 : Int) ≤ n := by omega
  have h3 : (n : Int) ≤ 32 := by omega
  go_enter Try.func88, Try.ntmps88
  go_wp2_with (go_at_call 90; refine (cR _).mono ?_; rintro _ w1 ⟨rfl, rfl⟩)
  go_ret
  exact ⟨rfl, rfl⟩
theorem rrot_any (x : UInt32) (n : Nat) (h0 : 0 < n) (h1 : n < 32) (w : World) : Calls Try.prog 84 #[.int .u32 (x.toNat : Int), .int .i64 (n : Int)] w fun e w' => e = .returned (.int .u32 ((rotr x n).toNat : Int)) ∧ ∃ q, w' = w.drewN q := by
  obtain ⟨m, hm⟩ : ∃ m, m + n = 32 := ⟨32 - n, by omega⟩
  have hO := rot_or x m n h0 hm (by omega)
  have hn : (32 : Int) - n = m := by omega
  have h2 : (0 : Int) ≤ n := by omega
  have h3 : (n : Int) < 32 := by omega
  have h4 : (0 : Int) ≤ m := by omega
  have h5 : (m : Int) < 32 := by omega
  have hO' : bits .or .u32 ((x.toNat : Int) / 2 ^ n) ((x.toNat : Int) * 2 ^ m % 4294967296) = ((rotr x n).toNat : Int) := by
    rw [← hO]; unfold bits; simp only [BitVec.or_comm]
  go_enter Try.func84, Try.ntmps84
  go_wp2
  go_quiet (fail)
  go_wp2
  go_ret
  exact ⟨rfl, nq, rfl⟩

/- Sha: word, put, the tables. -/

/-- the value of a word -/
def uv (x : UInt32) : Value := .int .u32 (x.toNat : Int)
theorem u_shl8 (x : UInt32) : (x.toNat : Int) * (256 : Int) % (4294967296 : Int) = (((x <<< 8).toNat : Nat) : Int) := by
  rw [UInt32.toNat_shiftLeft, show (8 : UInt32).toNat % 32 = 8 from rfl, Nat.shiftLeft_eq]; omega
theorem u_byte (c : UInt8) : ((c.toNat : Nat) : Int) = (c.toUInt32.toNat : Int) := by rw [UInt8.toNat_toUInt32]
theorem u_or_byte (x : UInt32) (c : UInt8) : bits .or .u32 (x.toNat : Int) (c.toNat : Int) = ((x ||| c.toUInt32).toNat : Int) := by rw [u_byte, u_or]
theorem word4_snoc (l : List UInt8) (c : UInt8) : word4 (l ++ [c]) = (word4 l <<< 8) ||| c.toUInt32 := by simp [word4]
theorem word_any {w : World} {a : Option Addr} {c n : Nat} {l : List UInt8} (hrow : RowAt w a (l.map bv)) (hl : n = l.length) (h4 : 4 ≤ l.length) (hc : n ≤ c) (hn : n ≤ 1000) :
    Calls Try.prog 87 #[.slice a n c] w fun e w' => e = .returned (.int .u32 ((word4 (l.take 4)).toNat : Int)) ∧ w = w' := by
  have hs := run_slice_hi (P := Try.prog) 30 5 Try.underlying30 (fun w => by kernel_rfl) a n c 4 (by omega)
  have hs' : ∀ w, (Instr.slice 30 (.slice a n c) none (some (.int .i64 4)) none).run Try.prog w = Result.ok (.slice a 4 c) w := hs
  clear hs hl
  go_enter Try.func87, Try.ntmps87
  go_wp2
  go_loop [3, 9] (fun y i => ∃ (j : Nat) (z : UInt32), j ≤ 4 ∧ i = .int .i64 j ∧ y = .int .u32 (z.toNat : Int) ∧ z = word4 (l.take j)) (fun _ i => 4 - (intOf i).toNat)
  case atStart => exact ⟨0, 0, Nat.zero_le _, rfl, rfl, rfl⟩
  case round =>
    obtain ⟨j, z, hj, rfl, rfl, hz⟩ := hrel
    by_cases hlt : j < 4
    · obtain ⟨b, off, rfl, hcl⟩ := hrow.at_ (k := j) (by rw [List.length_map]; omega)
      obtain ⟨d, hd⟩ : ∃ d, l[j]'(by omega) = d := ⟨_, rfl⟩
      have hts : word4 (l.take (j + 1)) = (z <<< 8) ||| d.toUInt32 := by
        rw [List.take_add_one, List.getElem?_eq_getElem (by omega), hd, hz]; exact word4_snoc _ _
      rw [List.getElem_map, hd] at hcl
      unfold bv at hcl
      have HV : Hid (bits .or .u32 ((z.toNat : Int) * 256 % 4294967296) ((d.toNat : Int) % 4294967296) = (((z <<< 8) ||| d.toUInt32).toNat : Int)) := by
        show _ = _
        rw [u_shl8, Int.emod_eq_of_lt (by omega) (by have := d.toNat_lt; omega), u_or_byte]
      have HN := Lib.hid hts
      clear hts hd hz hs' hrow
      go_wp2
      go_round
      case rel => exact ⟨j + 1, _, by omega, by go_num, congrArg (Value.int .u32) HV.out, HN.out.symm⟩
      case measure => simp [intOf]; omega
    · obtain rfl : j = 4 := by omega
      have HZ := Lib.hid hz
      clear hz hs' hrow
      go_wp2
      go_ret
      exact ⟨by rw [HZ.out]; rfl, rfl⟩
theorem wpList_build_of {P : Program} {ops : Array Oper} {rest : List Oper} {o : Oper} {a : Act} {w : World} {Q : Exit → Act → World → Prop} (hg : o.guard = none) (t : TypeId) (parts : Array (Nat × Operand)) (ho : o.op = .build t parts) (cells : Array Value)
    (hc : P.built t (parts.map fun (i, x) => (i, a.eval x)).toList = some cells) (h : wpList P ops Q rest (a.put o.dst (.agg cells)) w) : wpList P ops Q (o :: rest) a w :=
  wpList_build hg t parts ho (by rw [hc]; rfl) (by rw [hc]; exact h)
def tableC : Array Value := (shaK.map uv).toArray
theorem tableC_size : tableC.size = 64 := rfl
theorem tableC_one : tableC.all (·.oneCell') = true := by unfold tableC; simp [uv, Value.oneCell']
theorem table_any (w : World) : Calls Try.prog 89 #[] w fun e w' => e = .returned (.agg tableC) ∧ Below w.heap.size w w' := by
  go_enter Try.func89, Try.ntmps89
  go_wp2_with (first | (refine wpList_build_of rfl _ _ rfl tableC (by kernel_rfl) ?_) | (refine wpList_store_row rfl _ _ _ rfl w.heap.size tableC rfl rfl _ _ (World.alloc_heap_new w _) (by kernel_rfl) (by kernel_rfl) tableC_one ?_))
  rw [World.setRow_alloc_new]
  exact bodyPost_ret (results_cell_row (by rfl) _ _ w.heap.size _ tableC _ _ (by rfl) (World.alloc_heap_new w _) Try.underlying119 (by kernel_rfl) (by kernel_rfl)) rfl ⟨rfl, below_alloc _ _⟩
theorem first_any (w : World) : Calls Try.prog 80 #[] w fun e w' => e = .returned (.agg (sha0.map uv).toArray) ∧ Below w.heap.size w w' := by
  go_enter Try.func80, Try.ntmps80
  go_wp2
  exact bodyPost_ret (v := .agg (sha0.map uv).toArray) (by simp [results, Try.results80, go_sem]; kernel_rfl) rfl ⟨rfl, below_alloc _ _⟩

end Go.Proofs.Ytljobojdcnhecaa
