/- Texts of this claim, one behind the other: Lib, SgA, Quiet, Dk1, DkM. -/
import Derived.WalkKit
import Derived.RangeFuncBox
import Derived.WalkSpells
import Derived.WalkLawsBesides
import Derived.Lib.Hide
import Derived.Laws.AppendOwnNone
import Derived.Lib.QuietBelowIn
import Derived.Test.YtlmdpcaikhdenaaGreatRows
import Derived.Maps.Ext
set_option linter.unusedSimpArgs false
set_option linter.unusedVariables false
/- General lemmas, over any program: byte rows, strings, frames. -/
namespace Go.Proofs.YtlmdpcaikhdenaaGreat
open Go.RowKit

/-- the value of a byte -/
def bv (b : UInt8) : Value := .int .u8 (b.toNat : Int)

theorem ret_bool {a b : Bool} (h : a = b) : Ending.returned (.bool a) = .returned (.bool b) := by rw [h]


/-- a literal block of the call's own is a row -/
theorem ownsRow_lit (w : World) (base : Nat) (cur : Array Value) (e : TypeId) (size n : Nat) (hb : base ≤ w.heap.size) (hn : n ≤ maxLen) (hs : cur.size = n * size) :
    (w.alloc (.cells cur e)).ownsRow base e size (.slice (some ⟨w.heap.size, 0, none⟩) n n) n cur.toList :=
  ⟨by simpa using hs, .inr ⟨w.heap.size, n, cur, rfl, hb, World.alloc_heap_new w _, Nat.le_refl _, hn, hs, by rw [← hs, List.take_of_length_le (by simp)]⟩⟩

theorem cell_new (w : World) (c : Array Value) (e : TypeId) (i : Nat) (v : Value) (h : c[i]? = some v) : (w.alloc (.cells c e)).cell? ⟨w.heap.size, i, none⟩ = some v := by
  rw [World.cell?, show (w.alloc _).heap[w.heap.size]? = some _ from World.alloc_heap_new w _]
  simpa using h

/-- string(b), b a row of bytes of the call's own -/
theorem run_convert_row {P : Program} {w : World} {base : Nat} {ty : TypeId} {v : Value} {l : List UInt8} (src dst e : TypeId) (hs : P.underlying src = some (.slice e)) (he : P.underlying e = some (.int .u8)) (hd : P.underlying dst = some .string)
    (h : w.ownsRow base ty 1 v l.length (l.map bv)) : (convert src dst v).run P w = Result.ok (.string ⟨l.toArray⟩) w := by
  rcases h.2 with ⟨rfl, hn⟩ | ⟨g, cap, cur, rfl, _⟩
  · obtain rfl : l = [] := by simpa using hn
    exact run_convert_bytes_nil w src e hs he 0 0 dst hd
  · have hc := h.cells (g := g) rfl
    exact run_convert_bytes_back w src dst e ⟨g, 0, none⟩ cap l hs he hd (fun j hj => hc j _ (by simp [bv, hj]))



theorem run_index_str {P : Program} (t : TypeId) (ht : P.underlying t = some .string) (l : List UInt8) (k : Nat) (hk : k < l.length) (w : World) :
    (Instr.index t (.string ⟨l.toArray⟩) (.int .i64 k)).run P w = Result.ok (bv l[k]) w := by
  rw [run_index_string (t := t) (k := .i64) (h := ht), dif_pos ⟨by omega, by simp [ByteArray.size]; omega⟩]
  simp [bv]
  rfl

/-- the value of a string -/
def sv (l : List UInt8) : Value := .string ⟨l.toArray⟩
/-- a slice whose elements, of one cell each, are xs; an empty one may lie anywhere -/
def RowAt (w : World) (a : Option Addr) (xs : List Value) : Prop := xs ≠ [] → ∃ b off, a = some ⟨b, off, none⟩ ∧ ∀ j u, xs[j]? = some u → w.cell? ⟨b, off + j, none⟩ = some u

theorem cell_lt {w : World} {a : Addr} {v : Value} (h : w.cell? a = some v) : a.block < w.heap.size := by
  unfold World.cell? at h
  split at h
  · rename_i hb; exact (Array.getElem?_eq_some_iff.1 hb).1
  · cases h
theorem RowAt.below {w w' : World} {a : Option Addr} {xs : List Value} (h : RowAt w a xs) (hb : Below w.heap.size w w') : RowAt w' a xs := fun hx => by
  obtain ⟨b, off, e, hc⟩ := h hx
  exact ⟨b, off, e, fun j u hu => (hb.cell (p := ⟨b, off + j, none⟩) (cell_lt (hc j u hu))).trans (hc j u hu)⟩
theorem RowAt.at_ {w : World} {a : Option Addr} {xs : List Value} (h : RowAt w a xs) {k : Nat} (hk : k < xs.length) : ∃ b off, a = some ⟨b, off, none⟩ ∧ w.cell? ⟨b, off + k, none⟩ = some xs[k] := by
  obtain ⟨b, off, e, hc⟩ := h (by intro e; subst e; simp at hk)
  exact ⟨b, off, e, hc k _ (List.getElem?_eq_getElem hk)⟩
theorem addr_add (g j : Nat) : (⟨g, 0, none⟩ : Addr).add j = ⟨g, j, none⟩ := by unfold Addr.add; split <;> simp_all
theorem RowAt.of_owns {w : World} {base : Nat} {e : TypeId} {v : Value} {n : Nat} {xs : List Value} (h : w.ownsRow base e 1 v n xs) : ∃ a cap, v = .slice a n cap ∧ RowAt w a xs ∧ xs.length = n := by
  have hl : xs.length = n := by have := h.1; omega
  rcases h.2 with ⟨rfl, rfl⟩ | ⟨g, cap, cur, rfl, _⟩
  · exact ⟨none, 0, rfl, fun hx => absurd (List.length_eq_zero_iff.1 hl) hx, hl⟩
  · have hc := h.cells (g := g) rfl
    exact ⟨_, cap, rfl, fun _ => ⟨g, 0, rfl, fun j u hu => by have h := hc j u hu; rw [addr_add] at h; rw [Nat.zero_add]; exact h⟩, hl⟩

theorem ownsRow_base_le {w : World} {base base' : Nat} {e : TypeId} {size : Nat} {v : Value} {n : Nat} {xs : List Value} (h : w.ownsRow base e size v n xs) (hb : base' ≤ base) : w.ownsRow base' e size v n xs := by
  obtain ⟨h1, h2⟩ := h
  refine ⟨h1, h2.imp id ?_⟩
  rintro ⟨g, cap, cur, rfl, h3, h4⟩
  exact ⟨g, cap, cur, rfl, Nat.le_trans hb h3, h4⟩
theorem wf_i64 {x : Int} (h0 : -9223372036854775808 ≤ x) (h1 : x ≤ 9223372036854775807) : (Lit.int .i64 x).wf = true := by
  have e1 : IntKind.i64.min = -9223372036854775808 := by decide
  have e2 : IntKind.i64.max = 9223372036854775807 := by decide
  simp [Lit.wf, e1, e2]; omega
theorem i64_of_wf {x : Int} (h : (Lit.int .i64 x).wf = true) : -9223372036854775808 ≤ x ∧ x ≤ 9223372036854775807 := by
  have e1 : IntKind.i64.min = -9223372036854775808 := by decide
  have e2 : IntKind.i64.max = 9223372036854775807 := by decide
  simp [Lit.wf, e1, e2] at h; omega
theorem u8_of_wf {x : Int} (h : (Lit.int .u8 x).wf = true) : 0 ≤ x ∧ x < 256 := by
  have e1 : IntKind.u8.min = 0 := by decide
  have e2 : IntKind.u8.max = 255 := by decide
  simp [Lit.wf, e1, e2] at h; omega
/-- one step behind another -/
theorem bthen {a b c : World} (h : Below a.heap.size a b) (k : Below b.heap.size b c) : Below a.heap.size a c := h.trans (k.mono h.size)
theorem Below.grownBy {w w' : World} {row : Option Nat} (h : Below w.heap.size w w') : w.grownBy w' row := ⟨h.os, h.tape, h.output, h.size, fun k hk _ => h.block k hk⟩

/-- append onto a row of the call's own, from whatever slice of one-cell elements -/
theorem wpList_append_any {P : Program} (w : World) {ops : Array Oper} {rest : List Oper} {o : Oper} {a : Act} {Q : Exit → Act → World → Prop} (hgd : o.guard = none) (s x : Operand) (t : TypeId)
    (ho : o.op = .call { callee := .builtin .append, args := #[s, x], argTypes := #[t, t] })
    (base : Nat) (e : TypeId) (i : TypeInfo) (z : Value) (bytes : Nat) (ht : P.underlying t = some (.slice e)) (hi : P.info? e = some i) (hz : i.zero = some z)
    (hsize : i.size = 1) (hby : i.bytes = bytes) (hzs : z.cells.size = 1)
    (v : Value) (n : Nat) (xs : List Value) (hs : a.eval s = v) (hown : w.ownsRow base e 1 v n xs)
    (sa : Option Addr) (m c : Nat) (news : List Value) (hx : a.eval x = .slice sa m c) (hl : news.length = m) (hnil : sa = none → c = 0) (hnews : RowAt w sa news) (h1 : ∀ u ∈ news, u.oneCell' = true)
    (h63 : n + m ≤ maxLen) (hbytes : (n + m) * bytes ≤ 140737488355328) (hbase : base ≤ w.heap.size)
    (h : ∀ v' w', w'.ownsRow base e 1 v' (n + m) (xs ++ news) → w.grownBy w' v.ownBlock → wpList P ops Q rest (a.put o.dst v') w') : wpList P ops Q (o :: rest) a w := by
  cases sa with
  | none =>
    have hn : news = [] := by
      by_cases hne : news = []
      · exact hne
      · obtain ⟨b, off, e, _⟩ := hnews hne; cases e
    subst hn
    obtain rfl : m = 0 := by simpa using hl.symm
    obtain rfl : c = 0 := hnil rfl
    refine wpList_append_own_none hgd s x t ho base e i 1 ht hi v n xs hs hown hx ?_
    exact h v w (by simpa using hown) ⟨rfl, rfl, rfl, Nat.le_refl _, fun _ _ _ => rfl⟩
  | some ad =>
    refine wpList_append_own w hgd s x t ho base e i z 1 bytes ht hi hz hsize hby hzs (by decide) v n xs hs hown ad m c news hx (by omega) ?_ h1 h63 hbytes hbase (fun v' w' h2 h3 _ => h v' w' h2 h3)
    intro j u hu
    have hne : news ≠ [] := by intro e; subst e; simp at hu
    obtain ⟨b, off, e, hc⟩ := hnews hne
    cases e
    have := hc j u hu
    rwa [show (⟨b, off, none⟩ : Addr).add j = ⟨b, off + j, none⟩ from by unfold Addr.add; split <;> simp_all]

theorem RowAt.nil (w : World) (a : Option Addr) : RowAt w a [] := fun h => absurd rfl h
theorem RowAt.kept {w w' : World} {a : Option Addr} {xs : List Value} (h : RowAt w a xs) (hk : ∀ b, b < w.heap.size → (∃ off sp, a = some ⟨b, off, sp⟩) → w'.heap[b]? = w.heap[b]?) : RowAt w' a xs := fun hx => by
  obtain ⟨b, off, e, hc⟩ := h hx
  refine ⟨b, off, e, fun j u hu => ?_⟩
  have hlt := cell_lt (hc j u hu)
  exact (World.cell?_of_block (a := ⟨b, off + j, none⟩) (hk b hlt ⟨off, none, e⟩)).trans (hc j u hu)
theorem RowAt.take {w : World} {a : Option Addr} {xs : List Value} (h : RowAt w a xs) (k : Nat) : RowAt w a (xs.take k) := fun hx => by
  obtain ⟨b, off, e, hc⟩ := h (by intro e; subst e; simp at hx)
  exact ⟨b, off, e, fun j u hu => hc j u (by rw [List.getElem?_take] at hu; split at hu; exact hu; cases hu)⟩
theorem RowAt.of_row {w : World} {g : Nat} {xs : List Value} (h : ∀ j u, xs[j]? = some u → w.cell? ⟨g, j, none⟩ = some u) : RowAt w (some ⟨g, 0, none⟩) xs := fun _ => ⟨g, 0, rfl, fun j u hu => by rw [Nat.zero_add]; exact h j u hu⟩

/-- where x[l:] begins -/
def subAt (a : Option Addr) (cap l : Nat) : Option Addr := if cap = l then a else a.map (·.add l)
theorem run_slice_lo {P : Program} (t e : TypeId) (ht : P.underlying t = some (.slice e)) (he : ∀ w, (sizeOf e).run P w = Result.ok 1 w) (a : Option Addr) (len cap l : Nat) (hl : l ≤ len) (w : World) :
    (Instr.slice t (.slice a len cap) (some (.int .i64 l)) none none).run P w = Result.ok (.slice (subAt a cap l) (len - l) (cap - l)) w := by
  have he' : P.elem t = e := by simp [Program.elem, ht]
  rw [run_slice_l (t := t) (ht := by rw [he']; exact ht) (kl := .i64) (h0 := by omega) (h1 := by omega), he', he]
  simp [Result.andThen, sliced, subAt]
theorem run_slice_hi {P : Program} (t e : TypeId) (ht : P.underlying t = some (.slice e)) (he : ∀ w, (sizeOf e).run P w = Result.ok 1 w) (a : Option Addr) (len cap h : Nat) (hh : h ≤ cap) (w : World) :
    (Instr.slice t (.slice a len cap) none (some (.int .i64 h)) none).run P w = Result.ok (.slice a h cap) w := by
  have he' : P.elem t = e := by simp [Program.elem, ht]
  rw [run_slice_h (t := t) (ht := by rw [he']; exact ht) (kh := .i64) (h0 := by omega) (h2 := by omega), he', he]
  simp [Result.andThen, sliced]
  intro _; cases a <;> simp [Addr.add]
theorem subAt_none {a : Option Addr} {cap l : Nat} : subAt a cap l = none ↔ a = none := by
  unfold subAt; split <;> simp
theorem RowAt.drop {w : World} {a : Option Addr} {xs : List Value} (h : RowAt w a xs) (cap l : Nat) (hc : xs.length ≤ cap) : RowAt w (subAt a cap l) (xs.drop l) := fun hx => by
  have hlt : l < xs.length := by
    rcases Nat.lt_or_ge l xs.length with h | h
    · exact h
    · exact absurd (List.drop_of_length_le h) hx
  obtain ⟨b, off, rfl, hc'⟩ := h (by intro e; subst e; simp at hlt)
  refine ⟨b, off + l, ?_, fun j u hu => ?_⟩
  · unfold subAt; rw [if_neg (by omega)]
    simp only [Option.map_some, Option.some.injEq]
    unfold Addr.add; split <;> simp_all
  · rw [List.getElem?_drop] at hu
    rw [Nat.add_assoc]; exact hc' _ u hu

theorem ownsRow_cap0 {w : World} {base : Nat} {e : TypeId} {size n m c : Nat} {a : Option Addr} {xs : List Value} (h : w.ownsRow base e size (.slice a m c) n xs) : a = none → c = 0 := by
  rcases h.2 with ⟨h, _⟩ | ⟨g, c', cur, h, _⟩
  · simp at h; intro _; exact h.2.2
  · simp at h; intro e; rw [e] at h; simp at h
theorem ownsRow_len_cap {w : World} {base : Nat} {e : TypeId} {size n m c : Nat} {a : Option Addr} {xs : List Value} (h : w.ownsRow base e size (.slice a m c) n xs) : m ≤ c := by
  rcases h.2 with ⟨h, _⟩ | ⟨g, c', cur, h, _, _, hle, _⟩
  · simp at h; omega
  · simp at h; omega



end Go.Proofs.YtlmdpcaikhdenaaGreat
/- Segments, plain: numbers as bytes, the sum of bytes, frames of records, entries with their numbers, what bytes are as a segment. -/
namespace Go.Proofs.YtlmdpcaikhdenaaGreat

theorem rev_ind {α : Type} {P : List α → Prop} (h0 : P []) (h1 : ∀ l a, P l → P (l ++ [a])) (l : List α) : P l := by
  have : ∀ r : List α, P r.reverse := fun r => by
    induction r with
    | nil => exact h0
    | cons a r ih => rw [List.reverse_cons]; exact h1 _ _ ih
  have := this l.reverse
  rwa [List.reverse_reverse] at this
/-- x in w bytes, the highest first (what is above them is left out) -/
def be : Nat → Nat → List UInt8
  | 0, _ => []
  | w + 1, x => be w (x / 256) ++ [UInt8.ofNat x]
theorem be_len (w x : Nat) : (be w x).length = w := by
  induction w generalizing x with
  | zero => rfl
  | succ w ih => simp [be, ih]
/-- the number that bytes are, the highest first -/
def unbe (l : List UInt8) : Nat := l.foldl (fun a c => a * 256 + c.toNat) 0
theorem unbe_snoc (l : List UInt8) (c : UInt8) : unbe (l ++ [c]) = unbe l * 256 + c.toNat := by simp [unbe]
theorem unbe_be (w x : Nat) : unbe (be w x) = x % 256 ^ w := by
  induction w generalizing x with
  | zero => simp [be, unbe, Nat.mod_one]
  | succ w ih =>
    rw [be, unbe_snoc, ih, Nat.pow_succ, Nat.mul_comm (256 ^ w), Nat.mod_mul]
    simp [UInt8.toNat_ofNat']
    omega
theorem unbe_lt (l : List UInt8) : unbe l < 256 ^ l.length := by
  refine rev_ind (P := fun l => unbe l < 256 ^ l.length) (by simp [unbe]) (fun l c ih => ?_) l
  · rw [unbe_snoc, List.length_append, List.length_singleton, Nat.pow_succ]
    have := c.toNat_lt
    omega

/-- one step of the sum, of one bit -/
def crcStep (x : Nat) : Nat := if x % 2 = 1 then (x / 2) ^^^ 2197175160 else x / 2
theorem crcStep_lt {x : Nat} (h : x < 4294967296) : crcStep x < 4294967296 := by
  unfold crcStep
  split
  · exact Nat.xor_lt_two_pow (n := 32) (by omega) (by decide)
  · omega
def crcSteps : Nat → Nat → Nat
  | 0, x => x
  | k + 1, x => crcStep (crcSteps k x)
theorem crcSteps_lt {x : Nat} (h : x < 4294967296) : ∀ k, crcSteps k x < 4294967296
  | 0 => h
  | k + 1 => crcStep_lt (crcSteps_lt h k)
def crcByte (x : Nat) (c : UInt8) : Nat := crcSteps 8 (x ^^^ c.toNat)
theorem xor_lt32 {x : Nat} (h : x < 4294967296) (c : UInt8) : x ^^^ c.toNat < 4294967296 := Nat.xor_lt_two_pow (n := 32) h (by have := c.toNat_lt; omega)
theorem crcByte_lt {x : Nat} (h : x < 4294967296) (c : UInt8) : crcByte x c < 4294967296 := crcSteps_lt (xor_lt32 h c) 8
def crcThrough (x : Nat) (l : List UInt8) : Nat := l.foldl crcByte x
theorem crcThrough_snoc (x : Nat) (l : List UInt8) (c : UInt8) : crcThrough x (l ++ [c]) = crcByte (crcThrough x l) c := by simp [crcThrough]
theorem crcThrough_lt {x : Nat} (h : x < 4294967296) (l : List UInt8) : crcThrough x l < 4294967296 := by
  induction l generalizing x with
  | nil => exact h
  | cons c l ih => exact ih (crcByte_lt h c)
/-- the sum of bytes -/
def crcSum (l : List UInt8) : Nat := 4294967295 - crcThrough 4294967295 l
theorem crcSum_lt (l : List UInt8) : crcSum l < 4294967296 := by unfold crcSum; omega
/-- its four bytes, the lowest first -/
def ends (l : List UInt8) : List UInt8 := [UInt8.ofNat (crcSum l), UInt8.ofNat (crcSum l / 256), UInt8.ofNat (crcSum l / 65536), UInt8.ofNat (crcSum l / 16777216)]
/-- the frame of a record -/
def frameL (kind : UInt8) (body : List UInt8) : List UInt8 := (kind :: be 4 body.length ++ body) ++ ends (kind :: be 4 body.length ++ body)
theorem frame_len (kind : UInt8) (body : List UInt8) : (frameL kind body).length = body.length + 9 := by
  simp [frameL, ends, be_len]; omega
/-- what stands at the front of bytes: an error (170: not whole, 171: no kind, 172: another sum, 3: too long), or a record -/
def readE (b : List UInt8) : Nat :=
  if b.length = 0 then 170
  else if b.getD 0 0 = 0 then 171
  else if b.length < 5 then 170
  else if 8388608 < unbe ((b.drop 1).take 4) then 3
  else if b.length < unbe ((b.drop 1).take 4) + 9 then 170
  else if ends (b.take (5 + unbe ((b.drop 1).take 4))) ≠ (b.drop (5 + unbe ((b.drop 1).take 4))).take 4 then 172
  else 0
def readN (b : List UInt8) : Nat := unbe ((b.drop 1).take 4)
def readK (b : List UInt8) : UInt8 := b.getD 0 0
def readB (b : List UInt8) : List UInt8 := (b.drop 5).take (readN b)
theorem readE_ok {b : List UInt8} (h : readE b = 0) : 0 < b.length ∧ readK b ≠ 0 ∧ 5 ≤ b.length ∧ readN b ≤ 8388608 ∧ readN b + 9 ≤ b.length ∧ ends (b.take (5 + readN b)) = (b.drop (5 + readN b)).take 4 := by
  unfold readE at h
  unfold readK readN
  split at h; · omega
  split at h; · omega
  split at h; · omega
  split at h; · omega
  split at h; · omega
  split at h; · omega
  rename_i h1 h2 h3 h4 h5 h6
  exact ⟨by omega, h2, by omega, by omega, by omega, by simpa using h6⟩
/-- an entry with its number -/
def oneL (n : Nat) (e : List UInt8) : List UInt8 := be 8 n ++ be 2 e.length ++ e
theorem one_len (n : Nat) (e : List UInt8) : (oneL n e).length = e.length + 10 := by simp [oneL, be_len]; omega
/-- are bytes an entry with its number? -/
def takeOk (b : List UInt8) : Bool := decide (10 ≤ b.length) && decide (unbe ((b.drop 8).take 2) ≤ 4096) && decide (b.length = unbe ((b.drop 8).take 2) + 10) && decide (unbe (b.take 8) ≤ 4611686018427387904)
def takeN (b : List UInt8) : Nat := unbe (b.take 8)
def takeB (b : List UInt8) : List UInt8 := b.drop 10

/-- what bytes are as a segment: its entries, how many bytes they are, why no more follow -/
structure SegL where
  entries : List (List UInt8)
  good : Nat
  why : Nat
/-- the error at a place; 0: another entry is there -/
def atE (first : Nat) (b : List UInt8) (s : SegL) : Nat :=
  if s.entries.length = 4096 then 5
  else if readE (b.drop s.good) ≠ 0 then readE (b.drop s.good)
  else if readK (b.drop s.good) ≠ 101 then 171
  else if takeOk (readB (b.drop s.good)) = false ∨ takeN (readB (b.drop s.good)) ≠ first + s.entries.length then 250
  else 0
def segNext (b : List UInt8) (s : SegL) : SegL := { s with entries := s.entries ++ [takeB (readB (b.drop s.good))], good := s.good + (readN (b.drop s.good) + 9) }
def segFrom (first : Nat) (b : List UInt8) : Nat → SegL → SegL
  | 0, s => s
  | k + 1, s => if s.good < b.length then (if atE first b s = 0 then segFrom first b k (segNext b s) else { s with why := atE first b s }) else s
/-- the segment of bytes -/
def segL (first : Nat) (b : List UInt8) : SegL := segFrom first b b.length ⟨[], 0, 0⟩
theorem segFrom_done (first : Nat) (b : List UInt8) (k : Nat) (s : SegL) (h : b.length ≤ s.good) : segFrom first b k s = s := by
  cases k with
  | zero => rfl
  | succ k => rw [segFrom, if_neg (by omega)]
theorem segFrom_stop (first : Nat) (b : List UInt8) (k : Nat) (s : SegL) (h : s.good < b.length) (he : atE first b s ≠ 0) (hk : 0 < k) : segFrom first b k s = { s with why := atE first b s } := by
  cases k with
  | zero => omega
  | succ k => rw [segFrom, if_pos h, if_neg he]
theorem segFrom_on (first : Nat) (b : List UInt8) (k : Nat) (s : SegL) (h : s.good < b.length) (he : atE first b s = 0) : segFrom first b (k + 1) s = segFrom first b k (segNext b s) := by
  rw [segFrom, if_pos h, if_pos he]
/-- entries from a number on as frames -/
def encL : Nat → List (List UInt8) → List UInt8
  | _, [] => []
  | n, e :: r => frameL 101 (oneL n e) ++ encL (n + 1) r
theorem encL_snoc (n : Nat) (l : List (List UInt8)) (e : List UInt8) : encL n (l ++ [e]) = encL n l ++ frameL 101 (oneL (n + l.length) e) := by
  induction l generalizing n with
  | nil => simp [encL]
  | cons a r ih => simp [encL, ih, Nat.add_assoc, Nat.add_comm 1]

end Go.Proofs.YtlmdpcaikhdenaaGreat
/- A region that draws its order and whose operations only read or make memory, in a round of a loop over an iterator: one walk in the order of the text serves every order. Over the library's walk outside of rounds. -/
namespace Go.Proofs.YtlmdpcaikhdenaaGreat
open Go Go.Sort Go.RowKit

section
variable {F : Fence} {n : Nat} {P : Program} {ops : Array Oper} {C : World → Prop} {md : Region.Mode}




/-- no operation of the list is a defer statement -/
def noDefer (l : List Oper) : Bool := l.all fun o => match o.op with | .defer _ => false | _ => true


theorem wp_region_quiet_belowP {id : Nat} {Q : Exit → Act → World → Prop} {a : Act} {w : World} {os : List Oper} (hm : P.follows .mixedOrders = true) (hB : Region.lexB .any os.toArray = true)
    (h : wpQuiet P os.toArray (fun w' => ∃ p : Regrown, w' = grow (redrawn w p.d) p.os) (fun a' => ∀ w', Below w.heap.size w w' → Q .normal a' w') os a) : (Code.region id os.toArray true).wp P Q a w := by
  refine wp_region_quiet_below hm hB ?_
  have key : ∀ (l : List Oper) (a : Act), wpQuiet P os.toArray (fun w' => ∃ p : Regrown, w' = grow (redrawn w p.d) p.os) (fun a' => ∀ w', Below w.heap.size w w' → Q .normal a' w') l a →
      wpQuiet P os.toArray (fun w' => ∃ p : Regrown, w' = grow (redrawn w p.d) p.os) (fun a' => ∀ w', (∃ p : Regrown, w' = grow (redrawn w p.d) p.os) → Q .normal a' w') l a := by
    intro l
    induction l with
    | nil => intro a h w' ⟨p, hp⟩; exact h w' (hp ▸ below_regrown w p.d p.os)
    | cons o rest ih =>
      intro a h
      unfold wpQuiet at h ⊢
      split at h
      · rename_i hw; simp only [hw, if_true]; exact Oper.quiet_mono (fun a => ih a) h
      · rename_i hw; simp only [hw]; exact ih _ h
  exact key os a h
end

end Go.Proofs.YtlmdpcaikhdenaaGreat
/- Disk: may a text be a name? By the program and by the reference. -/
namespace Go.Proofs.YtlmdpcaikhdenaaGreat
open Go.RowKit

def ChOk (c : UInt8) : Prop := (97 ≤ c.toNat ∧ c.toNat ≤ 122) ∨ (48 ≤ c.toNat ∧ c.toNat ≤ 57) ∨ c.toNat = 46 ∨ c.toNat = 45
/-- MAY A TEXT BE A NAME? -/
def NameOk (l : List UInt8) : Prop := 0 < l.length ∧ l.length ≤ 64 ∧ ∀ c ∈ l, ChOk c
open Classical in
noncomputable def nameOk (l : List UInt8) : Bool := decide (NameOk l)
theorem nameOk_true {l : List UInt8} (h : NameOk l) : true = nameOk l := by simp [nameOk, h]
theorem nameOk_false {l : List UInt8} (h : ¬ NameOk l) : false = nameOk l := by simp [nameOk, h]

theorem nameOk_len {l : List UInt8} (h0 : 0 < l.length) (h : ∀ c ∈ l, ChOk c) : decide ((l.length : Int) ≤ 64) = nameOk l := by
  by_cases h1 : l.length ≤ 64
  · rw [← nameOk_true ⟨h0, h1, h⟩]; simp; omega
  · rw [← nameOk_false (fun hN => h1 hN.2.1)]; simp; omega
theorem run_idx_var {P : Program} (t : TypeId) (ht : P.underlying t = some .string) (l : List UInt8) (k : Nat) (hk : k < l.length) : ∀ w, (Instr.index t (.string ⟨l.toArray⟩) (.int .i64 k)).run P w = Result.ok (.int .u8 (l[k].toNat : Int)) w :=
  fun w => run_index_str t ht l k hk w

set_option maxHeartbeats 1000000 in
theorem Name_any (l : List UInt8) (w : World) (hl : l.length ≤ 9223372036854775807) :
    Calls Tryz.prog 83 #[.string ⟨l.toArray⟩] w fun e w' => e = .returned (.bool (nameOk l)) ∧ w = w' := by
  have hn : ∀ b : Bool, b = nameOk l → Ending.returned (.bool b) = .returned (.bool (nameOk l)) := fun b h => by rw [h]
  have HN := Lib.hid hn; clear hn
  go_enter Tryz.func83, Tryz.ntmps83
  go_wp2
  go_loop [7] (fun i => ∃ k : Nat, k ≤ l.length ∧ i = .int .i64 k ∧ Hid (∀ j (hj : j < l.length), j < k → ChOk l[j])) (fun i => l.length - (intOf i).toNat)
  case atStart => exact ⟨0, by omega, rfl, fun j hj h => by omega⟩
  case round =>
    obtain ⟨k, hk, rfl, HA⟩ := hrel
    by_cases hlt : k < l.length
    · have hi := run_idx_var 9 Tryz.underlying9 l k hlt
      have hsn : ChOk l[k] → Hid (∀ j (hj : j < l.length), j < k + 1 → ChOk l[j]) := fun h j hj hjk => by
        by_cases e : j = k
        · subst e; exact h
        · exact HA.out j hj (by omega)
      have hno : ¬ ChOk l[k] → ¬ NameOk l := fun h hN => h (hN.2.2 _ (List.getElem_mem hlt))
      have HS := Lib.hid hsn; clear hsn
      have HNO := Lib.hid hno; clear hno
      have hc : ChOk l[k] ∨ ¬ ChOk l[k] := Classical.em _
      have HC := Lib.hid hc; clear hc
      generalize l[k] = c at hi HS HNO HC
      go_wp2
      all_goals first
        | (go_round
           case rel => exact ⟨k + 1, by omega, by go_num, HS.out (by unfold ChOk; grind)⟩
           case measure => simp [intOf]; omega)
        | (go_ret
           exact ⟨HN.out _ (nameOk_false (HNO.out (by unfold ChOk; grind))), rfl⟩)
    · obtain rfl : k = l.length := by omega
      have HL : ∀ c ∈ l, ChOk c := fun c hc => by
        obtain ⟨j, hj, rfl⟩ := List.getElem_of_mem hc
        exact HA.out j hj hj
      have HL2 := Lib.hid HL; clear HL
      go_wp2
      all_goals
        go_ret
        first
          | exact ⟨HN.out _ (nameOk_len (by omega) HL2.out), rfl⟩
          | exact ⟨HN.out _ (nameOk_true ⟨by omega, by omega, HL2.out⟩), rfl⟩
          | exact ⟨HN.out _ (nameOk_false fun h => by have := h.1; have := h.2.1; omega), rfl⟩


end Go.Proofs.YtlmdpcaikhdenaaGreat
/- Disk: the plain model, no program in sight. Names lead to file numbers; steps of the names; writes; what a stop leaves. -/
namespace Go.Proofs.YtlmdpcaikhdenaaGreat
open Go.RowKit Go.Maps

/-- names, rising, and the numbers of the files to which they lead -/
abbrev NL := List (List UInt8 × Nat)
def nlFind (l : NL) (k : List UInt8) : Option Nat := (l.find? fun p => p.1 == k).map (·.2)
def nlDel (l : NL) (k : List UInt8) : NL := l.filter fun p => !(p.1 == k)
def nlIns (x : List UInt8 × Nat) : NL → NL
  | [] => [x]
  | y :: r => if bytesBefore x.1 y.1 then x :: y :: r else y :: nlIns x r
def nlPut (l : NL) (k : List UInt8) (n : Nat) : NL := nlIns (k, n) (nlDel l k)
def Rising (l : NL) : Prop := l.Pairwise (fun p q => bytesBefore p.1 q.1 = true)

/-- names as the datum of a map -/
def nameE (p : List UInt8 × Nat) : Lit × DataW Unit := (.string p.1, .lit (.int .i64 (p.2 : Int)))
def nameD (l : NL) : DataW Unit := .map (l.map nameE)

theorem same_str (a b : List UInt8) : (Lit.string a).sameKey (.string b) = (a == b) := rfl
theorem nameD_del (l : NL) (k : List UInt8) : (nameD l).del (.string k) = nameD (nlDel l k) := by
  unfold nameD DataW.del nlDel
  simp only [List.filter_map]
  rfl
theorem nameD_ins (x : List UInt8 × Nat) : ∀ l : NL, DataW.insert (nameE x) (l.map nameE) = (nlIns x l).map nameE
  | [] => rfl
  | y :: r => by
    simp only [List.map_cons, DataW.insert, nlIns]
    have e : (nameE x).1.before (nameE y).1 = bytesBefore x.1 y.1 := rfl
    rw [e]
    split
    · rfl
    · rw [nameD_ins x r]; rfl
theorem nameD_put (l : NL) (k : List UInt8) (n : Nat) : (nameD l).put (.string k) (.lit (.int .i64 (n : Int))) = nameD (nlPut l k n) := by
  have h := nameD_del l k
  unfold nameD DataW.del at h
  simp only [DataW.map.injEq] at h
  unfold nameD DataW.put nlPut
  simp only []
  rw [h]
  exact congrArg DataW.map (nameD_ins (k, n) (nlDel l k))
theorem nameD_has (l : NL) (k : List UInt8) : has (nameD l) (.string k) = (nlFind l k).isSome := by
  unfold nameD nlFind
  rw [has_eq]
  induction l with
  | nil => rfl
  | cons y r ih =>
    simp only [List.map_cons, List.any_cons, List.find?_cons]
    have e : (nameE y).1.sameKey (.string k) = (y.1 == k) := rfl
    rw [e, ih]
    cases y.1 == k <;> rfl
theorem nameD_at (l : NL) (k : List UInt8) (z : DataW Unit) : (nameD l).atKey (.string k) z = (nlFind l k).elim z (fun n => .lit (.int .i64 (n : Int))) := by
  unfold nameD nlFind DataW.atKey
  simp only []
  induction l with
  | nil => rfl
  | cons y r ih =>
    simp only [List.map_cons, List.find?_cons]
    have e : (nameE y).1.sameKey (.string k) = (y.1 == k) := rfl
    rw [e]
    cases y.1 == k
    · exact ih
    · rfl
theorem nameD_size (l : NL) : size (nameD l) = l.length := by simp [nameD, size_eq]

/-! ### the disk -/
/-- a pending step of the names -/
inductive NStep where
  | create (name : List UInt8) (file : Nat)
  | rename (src dst : List UInt8)
  | remove (name : List UInt8)
def doStep (l : NL) : NStep → NL
  | .create k n => nlPut l k n
  | .rename f t => match nlFind l f with
    | some n => nlPut (nlDel l f) t n
    | none => l
  | .remove k => nlDel l k
/-- a pending write -/
structure Wr where
  file : Nat
  cut : Bool
  place : Nat
  data : List UInt8
/-- bytes behind a write of which the first n bytes are laid -/
def laid (b : List UInt8) (x : Wr) (n : Nat) : List UInt8 :=
  if x.cut then b.take x.place else if n = 0 then b else
    (b ++ List.replicate (x.place - b.length) 0).take x.place ++ x.data.take n ++ b.drop (x.place + n)
/-- a disk: its room; what stands and what lasts of each file; names; pending steps; pending writes; how many steps were done -/
structure DSt where
  room : Nat
  files : List (List UInt8 × List UInt8)
  names : NL
  sure : NL
  steps : List NStep
  writes : List Wr
  done : Nat
def DSt.stands (s : DSt) (n : Nat) : List UInt8 := (s.files.getD n ([], [])).1
def DSt.lasts (s : DSt) (n : Nat) : List UInt8 := (s.files.getD n ([], [])).2
def usedOf (s : DSt) (l : NL) : Nat := (l.map fun p => (s.stands p.2).length).sum
def DSt.used (s : DSt) : Nat := usedOf s s.names
def DSt.step (s : DSt) (x : NStep) : DSt := { s with names := doStep s.names x, steps := s.steps ++ [x], done := s.done + 1 }
def DSt.tick (s : DSt) : DSt := { s with done := s.done + 1 }
def DSt.setData (s : DSt) (n : Nat) (d : List UInt8) : DSt := { s with files := s.files.set n (d, s.lasts n) }
def DSt.write (s : DSt) (x : Wr) : DSt := { s with files := s.files.set x.file (laid (s.stands x.file) x x.data.length, s.lasts x.file), writes := s.writes ++ [x], done := s.done + 1 }

/-- Create -/
noncomputable def DSt.create (s : DSt) (k : List UInt8) : DSt × Nat :=
  if !nameOk k then (s.tick, 2) else if (nlFind s.names k).isSome then (s.tick, 8) else
    (({ s with files := s.files ++ [([], [])] } : DSt).step (.create k s.files.length), 0)
/-- Write -/
def DSt.put (s : DSt) (k : List UInt8) (at_ : Int) (b : List UInt8) : DSt × Nat :=
  match nlFind s.names k with
  | none => (s.tick, 7)
  | some f =>
    let had := (s.stands f).length
    if at_ < 0 ∨ (had : Int) < at_ then (s.tick, 2)
    else if had < at_.toNat + b.length ∧ s.room < s.used + (at_.toNat + b.length - had) then (s.tick, 5)
    else (s.write ⟨f, false, at_.toNat, b⟩, 0)
/-- Cut -/
def DSt.cut (s : DSt) (k : List UInt8) (size : Int) : DSt × Nat :=
  match nlFind s.names k with
  | none => (s.tick, 7)
  | some f => if size < 0 ∨ ((s.stands f).length : Int) < size then (s.tick, 2) else (s.write ⟨f, true, size.toNat, []⟩, 0)
/-- Sync -/
def DSt.sync (s : DSt) (k : List UInt8) : DSt × Nat :=
  match nlFind s.names k with
  | none => (s.tick, 7)
  | some f => ({ s with files := s.files.set f (s.stands f, s.stands f), writes := s.writes.filter (fun x => !(x.file == f)), done := s.done + 1 }, 0)
/-- SyncNames -/
def DSt.syncNames (s : DSt) : DSt × Nat := ({ s with sure := s.names, steps := [], done := s.done + 1 }, 0)
/-- Rename -/
noncomputable def DSt.rename (s : DSt) (k t : List UInt8) : DSt × Nat :=
  if !nameOk t then (s.tick, 2) else match nlFind s.names k with
  | none => (s.tick, 7)
  | some _ => (s.step (.rename k t), 0)
/-- Remove -/
def DSt.remove (s : DSt) (k : List UInt8) : DSt × Nat :=
  match nlFind s.names k with
  | none => (s.tick, 7)
  | some _ => (s.step (.remove k), 0)
/-- Read -/
def DSt.read (s : DSt) (k : List UInt8) (at_ n : Int) : List UInt8 × Nat :=
  match nlFind s.names k with
  | none => ([], 7)
  | some f => if at_ < 0 ∨ n < 0 then ([], 2) else if ((s.stands f).length : Int) < at_ then ([], 4)
    else (((s.stands f).drop at_.toNat).take n.toNat, 0)
/-- Size -/
def DSt.size (s : DSt) (k : List UInt8) : Nat × Nat :=
  match nlFind s.names k with
  | none => (0, 7)
  | some f => ((s.stands f).length, 0)
/-- Files -/
def DSt.all (s : DSt) : List (List UInt8 × List UInt8) := s.names.map fun p => (p.1, s.stands p.2)
/-- a disk of files that last -/
def DSt.ofFiles (room : Nat) (l : List (List UInt8 × List UInt8)) : DSt :=
  let ns := l.zipIdx.map fun p => (p.1.1, p.2)
  ⟨room, l.map (fun p => (p.2, p.2)), ns, ns, [], [], 0⟩

/-- names behind a stop -/
def stopNames (s : DSt) (names : Int) : NL := (s.steps.take names.toNat).foldl doStep s.sure
def leadsTo (l : NL) (f : Nat) : Bool := l.any fun p => p.2 == f
/-- is the k-th write kept? -/
def keptAt (s : DSt) (l : NL) (keep : List Bool) (k : Nat) : Bool :=
  keep.getD k false && match s.writes[k]? with
    | some x => leadsTo l x.file
    | none => false
/-- the number of the last kept write that is no cut; none: -/
def lastKept (s : DSt) (l : NL) (keep : List Bool) : Nat → Option Nat
  | 0 => none
  | k + 1 => if keptAt s l keep k && (match s.writes[k]? with | some x => !x.cut | none => false) then some k else lastKept s l keep k
/-- how much of the k-th write is laid -/
def laidOf (last : Option Nat) (torn : Int) (k : Nat) (x : Wr) : Nat :=
  if last = some k ∧ 0 ≤ torn ∧ torn < x.data.length then torn.toNat else x.data.length
/-- a file behind the first k writes of a stop -/
def stopFile (s : DSt) (keep : List Bool) (last : Option Nat) (torn : Int) (f : Nat) : Nat → List UInt8
  | 0 => s.lasts f
  | k + 1 =>
    let b := stopFile s keep last torn f k
    match s.writes[k]? with
    | some x => if keep.getD k false && x.file == f then laid b x (laidOf last torn k x) else b
    | none => b
/-- Stop -/
def DSt.stop (s : DSt) (names : Int) (keep : List Bool) (torn : Int) : DSt :=
  let l := stopNames s names
  let last := lastKept s l keep s.writes.length
  DSt.ofFiles s.room (l.map fun p => (p.1, stopFile s keep last torn p.2 s.writes.length))

/-- no file is longer than this -/
def maxFile : Nat := 1099511627776
/-- no list is longer than this -/
def maxList : Nat := 4194304
/-- a step of the names that is well made -/
def StepOk (F : Nat) : NStep → Prop
  | .create k n => n < F ∧ NameOk k
  | .rename f t => NameOk f ∧ NameOk t
  | .remove k => NameOk k
/-- what holds of a disk at all times -/
structure DSt.Ok (s : DSt) (N : Nat) : Prop where
  room : s.room ≤ maxFile
  names : ∀ p ∈ s.names, p.2 < s.files.length ∧ NameOk p.1
  sure : ∀ p ∈ s.sure, p.2 < s.files.length ∧ NameOk p.1
  rising : Rising s.names
  risingSure : Rising s.sure
  steps : ∀ x ∈ s.steps, StepOk s.files.length x
  writes : ∀ x ∈ s.writes, x.file < s.files.length ∧ x.place + x.data.length ≤ maxFile ∧ (x.cut = true → x.data = [])
  files : ∀ p ∈ s.files, p.1.length ≤ maxFile ∧ p.2.length ≤ maxFile
  manyFiles : s.files.length ≤ N
  manySteps : s.steps.length ≤ N
  manyWrites : s.writes.length ≤ N
  manyNames : s.names.length ≤ N
  manySure : s.sure.length ≤ N
  done : s.done ≤ N

end Go.Proofs.YtlmdpcaikhdenaaGreat
