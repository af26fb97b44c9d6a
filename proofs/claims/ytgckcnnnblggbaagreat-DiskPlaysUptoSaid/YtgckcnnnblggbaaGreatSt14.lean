/- Texts of this claim, one behind the other: DlG, DkV, RdA, DkU. -/
import Derived.Test.YtgckcnnnblggbaaGreatSt13
import Derived.BigQuiet
import Derived.Test.YtgckcnnnblggbaaGreatSt02
import Derived.Deep.AppendLies
set_option linter.unusedSimpArgs false
set_option linter.unusedVariables false
/- Disk: the law's and the document's small functions: num, Same, SameTexts, SameFiles. -/
namespace Go.Proofs.YtgckcnnnblggbaaGreat
open Go.RowKit Go.Maps

/-- string(b), whatever the address of an empty one -/
theorem run_conv {P : Program} {w : World} (src dst e : TypeId) (hs : P.underlying src = some (.slice e)) (he : P.underlying e = some (.int .u8)) (hd : P.underlying dst = some .string)
    {a : Option Addr} {c : Nat} {l : List UInt8} (h : RowAt w a (l.map bv)) : (convert src dst (.slice a l.length c)).run P w = Result.ok (.string ⟨l.toArray⟩) w := by
  by_cases hl : l = []
  · subst hl
    rw [List.length_nil, run_convert_bytes_string w src dst e _ 0 c hs he hd]
    cases a <;> simp [Conv.bytesToString, loadCells]
    all_goals rfl
  · obtain ⟨b, off, rfl, hc⟩ := h (by simpa using hl)
    have hx := run_convert_bytes_arg (P := P) w src e hs he b off l.length c (l.map fun y => (y.toNat : Int)) (by simp) (fun i hi => by
      have := hc i (bv l[i]) (by simp [hi])
      rw [this]
      simp [bv, List.getD_eq_getElem?_getD, hi]) dst hd
    rw [hx]
    congr 2
    apply ByteArray.ext
    apply Array.toList_inj.1
    simp only [strOfNums, List.map_map]
    have : (fun n : Int => UInt8.ofNat n.toNat) ∘ (fun y : UInt8 => (y.toNat : Int)) = id := by funext y; simp
    rw [this, List.map_id]
theorem num_any (v : Value) (w : World) : Calls Tryz.prog 8 #[v] w fun e w' => e = .returned v ∧ w = w' := by
  go_enter Tryz.func8, Tryz.ntmps8
  go_wp2
  go_ret
  exact ⟨rfl, rfl⟩
theorem bytes_inj {a b : List UInt8} (h : (⟨a.toArray⟩ : ByteArray) = ⟨b.toArray⟩) : a = b := by simpa using congrArg (fun x : ByteArray => x.data.toList) h
theorem Same_any {w : World} {a b : Option Addr} {c d : Nat} {l m : List UInt8} (h1 : RowAt w a (l.map bv)) (h2 : RowAt w b (m.map bv)) :
    Calls Tryz.prog 53 #[.slice a l.length c, .slice b m.length d] w fun e w' => e = .returned (.bool (l == m)) ∧ w = w' := by
  have q1 := run_conv (P := Tryz.prog) (w := w) 36 9 5 Tryz.underlying36 Tryz.underlying5 Tryz.underlying9 (c := c) h1
  have q2 := run_conv (P := Tryz.prog) (w := w) 36 9 5 Tryz.underlying36 Tryz.underlying5 Tryz.underlying9 (c := d) h2
  go_enter Tryz.func53, Tryz.ntmps53
  go_wp2
  go_ret
  exact ⟨rfl, rfl⟩

theorem below_drewN {n : Nat} {w w' : World} (h : Below n w w') (q : Nat) : Below n w (w'.drewN q) := ⟨h.os, h.tape, h.output, h.size, h.block⟩
theorem list_ne_at {α : Type} [BEq α] [LawfulBEq α] {l m : List α} {k : Nat} {x y : α} (hx : l[k]? = some x) (hy : m[k]? = some y) (h : x ≠ y) : (l == m) = false := by
  rw [Bool.eq_false_iff]
  intro e
  rw [beq_iff_eq] at e
  subst e
  rw [hx] at hy
  exact h (Option.some.inj hy)
theorem list_eq_at {α : Type} [BEq α] [LawfulBEq α] {l m : List α} (hl : l.length = m.length) (h : ∀ j, j < l.length → l[j]? = m[j]?) : (l == m) = true := by
  rw [beq_iff_eq]
  refine List.ext_getElem? fun j => ?_
  by_cases hj : j < l.length
  · exact h j hj
  · rw [List.getElem?_eq_none (by omega), List.getElem?_eq_none (by omega)]
theorem list_ne_len {α : Type} [BEq α] [LawfulBEq α] {l m : List α} (hl : l.length ≠ m.length) : (l == m) = false := by
  rw [Bool.eq_false_iff]
  intro e
  rw [beq_iff_eq] at e
  exact hl (by rw [e])

set_option maxHeartbeats 1000000 in
theorem SameTexts_any {w : World} {a b : Option Addr} {c d : Nat} {L M : List (List UInt8)} (h1 : RowAt w a (L.map sv)) (h2 : RowAt w b (M.map sv)) (hl : L.length ≤ maxLen) :
    Calls Tryz.prog 66 #[.slice a L.length c, .slice b M.length d] w fun e w' => e = .returned (.bool (L == M)) ∧ Below w.heap.size w w' := by
  have hmax : maxLen = 9223372036854775807 := rfl
  have hn : ∀ t : Bool, (L == M) = t → Ending.returned (.bool t) = .returned (.bool (L == M)) := fun t h => by rw [h]
  have HN := Lib.hid hn; clear hn
  by_cases hlen : L.length = M.length
  · have i1 : ((L.length : Int) != (M.length : Int)) = false := by simp [hlen]
    have i2 : ((L.length : Int) == (M.length : Int)) = true := by simp [hlen]
    go_enter Tryz.func66, Tryz.ntmps66
    go_wp2
    go_loopw [5] (fun i wr => ∃ k : Nat, k ≤ L.length ∧ i = .int .i64 k ∧ Below w.heap.size w wr ∧ Hid (∀ j, j < k → L[j]? = M[j]?)) (fun i _ => L.length - (RowKit.intOf i).toNat)
    case atStart => exact ⟨0, by omega, rfl, Below.refl _ _, fun j hj => by omega⟩
    case round =>
      obtain ⟨k, hk, rfl, hb, HA⟩ := hrel
      by_cases hlt : k < L.length
      · obtain ⟨x, hx⟩ : ∃ x, L[k]? = some x := ⟨L[k]'hlt, by simp⟩
        obtain ⟨y, hy⟩ : ∃ y, M[k]? = some y := ⟨M[k]'(by omega), by simp⟩
        have r1 := h1.below hb
        have r2 := h2.below hb
        obtain ⟨b1, o1, rfl, c1⟩ := r1.at_ (k := k) (by simpa using hlt)
        obtain ⟨b2, o2, rfl, c2⟩ := r2.at_ (k := k) (by simpa using (by omega : k < M.length))
        rw [show (L.map sv)[k]'(by simpa using hlt) = .string ⟨x.toArray⟩ from by obtain ⟨_, e⟩ := List.getElem?_eq_some_iff.1 hx; simp [e, sv]] at c1
        rw [show (M.map sv)[k]'(by simpa using (by omega : k < M.length)) = .string ⟨y.toArray⟩ from by obtain ⟨_, e⟩ := List.getElem?_eq_some_iff.1 hy; simp [e, sv]] at c2
        have HX := Lib.hid hx; have HY := Lib.hid hy; clear hx hy r1 r2
        have HL := Lib.hid hlen
        have j0 : (k : Int) < (L.length : Int) := by omega
        have j1 : (k : Int) < (M.length : Int) := by omega
        by_cases he : x = y
        · subst he
          have HS : Hid (∀ j, j < k + 1 → L[j]? = M[j]?) := Lib.hid (fun j hj => by
            by_cases e : j = k
            · subst e; rw [HX.out, HY.out]
            · exact HA.out j (by omega))
          clear hlen
          go_wp2
          go_quiet (fail)
          go_wp2
          go_roundw
          case rel => exact ⟨k + 1, by omega, by go_num, below_drewN hb _, HS⟩
          case measure => simp [RowKit.intOf]; omega
        · have e1 : (x == y) = false := by simpa using he
          have e2 : (x != y) = true := by simpa using he
          have HE := Lib.hid he
          clear hlen he
          go_wp2
          go_quiet (fail)
          go_wp2
          go_ret
          exact ⟨HN.out _ (list_ne_at HX.out HY.out HE.out), below_drewN hb _⟩
      · obtain rfl : k = L.length := by omega
        have HL := Lib.hid hlen; clear hlen
        go_wp2
        go_ret
        exact ⟨HN.out _ (list_eq_at HL.out HA.out), hb⟩
  · have i1 : ((L.length : Int) != (M.length : Int)) = true := by simp; omega
    have i2 : ((L.length : Int) == (M.length : Int)) = false := by simp; omega
    have HL := Lib.hid hlen; clear hlen
    go_enter Tryz.func66, Tryz.ntmps66
    go_wp2
    go_ret
    exact ⟨HN.out _ (list_ne_len HL.out), Below.refl _ _⟩

end Go.Proofs.YtgckcnnnblggbaaGreat
/- Disk: plain: what steps do to names; what a stop lays. No program in sight. -/
namespace Go.Proofs.YtgckcnnnblggbaaGreat
open Go.RowKit Go.Maps

/-- names that are well made: rising, names all, and files below F -/
structure NamesOk (l : NL) (F : Nat) : Prop where
  rising : Rising l
  each : ∀ p ∈ l, p.2 < F ∧ NameOk p.1

theorem mem_nlDel {l : NL} {k : List UInt8} {p : List UInt8 × Nat} : p ∈ nlDel l k ↔ p ∈ l ∧ p.1 ≠ k := by
  unfold nlDel; rw [List.mem_filter]; simp
theorem mem_nlIns {x y : List UInt8 × Nat} : ∀ {l : NL}, y ∈ nlIns x l ↔ y = x ∨ y ∈ l
  | [] => by simp [nlIns]
  | z :: r => by
    unfold nlIns
    split
    · simp
    · rw [List.mem_cons, mem_nlIns, List.mem_cons]
      constructor
      · rintro (h | h | h)
        · exact .inr (.inl h)
        · exact .inl h
        · exact .inr (.inr h)
      · rintro (h | h | h)
        · exact .inr (.inl h)
        · exact .inl h
        · exact .inr (.inr h)
theorem mem_nlPut {l : NL} {k : List UInt8} {n : Nat} {p : List UInt8 × Nat} : p ∈ nlPut l k n ↔ p = (k, n) ∨ (p ∈ l ∧ p.1 ≠ k) := by
  unfold nlPut; rw [mem_nlIns, mem_nlDel]
theorem rising_del {l : NL} (h : Rising l) (k : List UInt8) : Rising (nlDel l k) := List.Pairwise.filter _ h
theorem before_trans {a b c : List UInt8} (h1 : bytesBefore a b = true) (h2 : bytesBefore b c = true) : bytesBefore a c = true := WideShapes.bytes_trans a b c h1 h2
theorem rising_ins {x : List UInt8 × Nat} : ∀ {l : NL}, Rising l → (∀ p ∈ l, p.1 ≠ x.1) → Rising (nlIns x l)
  | [], _, _ => by simp [nlIns, Rising]
  | z :: r, h, hn => by
    obtain ⟨h1, h2⟩ := List.pairwise_cons.1 h
    unfold nlIns
    split
    · rename_i hb
      refine List.pairwise_cons.2 ⟨fun p hp => ?_, h⟩
      rcases List.mem_cons.1 hp with rfl | hp
      · exact hb
      · exact before_trans hb (h1 p hp)
    · rename_i hb
      have hzx : bytesBefore z.1 x.1 = true := by
        rcases WideAt.bytes_total x.1 z.1 (fun e => hn z List.mem_cons_self e.symm) with h3 | h3
        · exact absurd h3 hb
        · exact h3
      refine List.pairwise_cons.2 ⟨fun p hp => ?_, rising_ins h2 (fun p hp => hn p (List.mem_cons_of_mem _ hp))⟩
      rcases mem_nlIns.1 hp with rfl | hp
      · exact hzx
      · exact h1 p hp
theorem rising_put {l : NL} (h : Rising l) (k : List UInt8) (n : Nat) : Rising (nlPut l k n) := rising_ins (rising_del h k) (fun p hp => (mem_nlDel.1 hp).2)
theorem NamesOk.put {l : NL} {F n : Nat} {k : List UInt8} (h : NamesOk l F) (hk : NameOk k) (hn : n < F) : NamesOk (nlPut l k n) F :=
  ⟨rising_put h.rising k n, fun p hp => by rcases mem_nlPut.1 hp with rfl | ⟨hp, _⟩; exact ⟨hn, hk⟩; exact h.each p hp⟩
theorem NamesOk.del {l : NL} {F : Nat} (h : NamesOk l F) (k : List UInt8) : NamesOk (nlDel l k) F := ⟨rising_del h.rising k, fun p hp => h.each p (mem_nlDel.1 hp).1⟩
theorem nlFind_mem' {l : NL} {k : List UInt8} {n : Nat} (h : nlFind l k = some n) : (k, n) ∈ l := by
  unfold nlFind at h
  obtain ⟨p, hp, rfl⟩ := Option.map_eq_some_iff.1 h
  have h1 := List.mem_of_find?_eq_some hp
  have h2 := List.find?_some hp
  simp at h2
  rw [← h2]; exact h1
theorem NamesOk.step {l : NL} {F : Nat} {x : NStep} (h : NamesOk l F) (hx : StepOk F x) : NamesOk (doStep l x) F := by
  cases x with
  | create k n => exact h.put hx.2 hx.1
  | rename f t =>
    simp only [doStep]
    split
    · rename_i n hf; exact (h.del f).put hx.2 (h.each _ (nlFind_mem' hf)).1
    · exact h
  | remove k => exact h.del k
theorem NamesOk.steps {l : NL} {F : Nat} {xs : List NStep} (h : NamesOk l F) (hx : ∀ x ∈ xs, StepOk F x) : NamesOk (xs.foldl doStep l) F := by
  induction xs generalizing l with
  | nil => exact h
  | cons x r ih => exact ih (h.step (hx x List.mem_cons_self)) (fun y hy => hx y (List.mem_cons_of_mem _ hy))

/-! ### a stop, as the program reckons it -/
/-- the writes that are kept, in order -/
def keptW (s : DSt) (l : NL) (keep : List Bool) (i : Nat) : List Wr := ((s.writes.zipIdx.take i).filter fun p => leadsTo l p.1.file && keep.getD p.2 false).map (·.1)
/-- the place of the last of them that is no cut, looked for from behind -/
def lastW (K : List Wr) : Nat → Option Nat
  | 0 => none
  | k + 1 => if (K[k]?.map (·.cut)).getD false then lastW K k else some k
/-- how much of the i-th kept write is laid -/
def sizeW (last : Option Nat) (torn : Int) (i : Nat) (x : Wr) : Nat := if last = some i ∧ 0 ≤ torn then min x.data.length torn.toNat else x.data.length
/-- the bytes of the files behind the first i kept writes -/
def dataW (s : DSt) (K : List Wr) (last : Option Nat) (torn : Int) : Nat → Nat → List UInt8
  | 0, f => s.lasts f
  | i + 1, f => match K[i]? with
    | some x => if x.file = f then laid (dataW s K last torn i f) x (sizeW last torn i x) else dataW s K last torn i f
    | none => dataW s K last torn i f

end Go.Proofs.YtgckcnnnblggbaaGreat
/- The document's disk: rows of names; find, copied. -/
namespace Go.Proofs.YtgckcnnnblggbaaGreat
open Go.RowKit Go.Maps

/-- a name and its file, as the document's disk has them -/
def encN (p : List UInt8 × Nat) : List Value := [sv p.1, .int .i64 (p.2 : Int)]
/-- names in a row of their own, from lo on -/
def NamedAt (w : World) (lo : Nat) (v : Value) (l : NL) : Prop := w.ownsRow lo 88 2 v l.length ((l.map encN).flatten)
theorem flat2 {α : Type} (f : α → List Value) : ∀ (l : List α) (i : Nat) (x : α), l[i]? = some x → (∀ y ∈ l, (f y).length = 2) → ∀ (j : Nat) u, j < 2 → (f x)[j]? = some u → ((l.map f).flatten)[i * 2 + j]? = some u := by
  intro l
  induction l with
  | nil => intro i x hx; simp at hx
  | cons c r ih =>
    intro i x hx hl j u hj hu
    have hc2 := hl c List.mem_cons_self
    rw [List.map_cons, List.flatten_cons]
    cases i with
    | zero =>
      obtain rfl : c = x := by simpa using hx
      rw [List.getElem?_append_left (by omega)]; simpa using hu
    | succ i =>
      rw [List.getElem?_append_right (by omega), show (i + 1) * 2 + j - (f c).length = i * 2 + j from by omega]
      exact ih i x (by simpa using hx) (fun y hy => hl y (List.mem_cons_of_mem _ hy)) j u hj hu
theorem NamedAt.at_ {w : World} {lo : Nat} {v : Value} {l : NL} (h : NamedAt w lo v l) : ∃ a c, v = .slice a l.length c ∧ ∀ (i : Nat) p, l[i]? = some p → ∃ g, a = some ⟨g, 0, none⟩ ∧ w.cell? ⟨g, i * 2, none⟩ = some (.string ⟨p.1.toArray⟩) ∧ w.cell? ⟨g, i * 2 + 1, none⟩ = some (.int .i64 (p.2 : Int)) := by
  rcases h.2 with ⟨rfl, hz⟩ | ⟨g, cap, cur, rfl, _, hg, _, _, _, ht⟩
  · refine ⟨none, 0, by rw [hz], fun i p hp => ?_⟩
    obtain rfl := List.length_eq_zero_iff.1 hz
    simp at hp
  · refine ⟨_, cap, rfl, fun i p hp => ⟨g, rfl, ?_⟩⟩
    have hi : i < l.length := (List.getElem?_eq_some_iff.1 hp).1
    have hcell : ∀ (j : Nat) u, j < l.length * 2 → ((l.map encN).flatten)[j]? = some u → w.cell? ⟨g, j, none⟩ = some u := fun j u hj hu => by
      have : cur.toList[j]? = some u := by rw [← ht, List.getElem?_take] at hu; simpa [hj] using hu
      exact cell_of_heap hg (by simpa using this)
    have hl2 : ∀ y ∈ l, (encN y).length = 2 := fun _ _ => rfl
    exact ⟨hcell (i * 2) _ (by omega) (flat2 encN l i p hp hl2 0 _ (by omega) rfl), hcell (i * 2 + 1) _ (by omega) (flat2 encN l i p hp hl2 1 _ (by omega) rfl)⟩
theorem find_at_ne {l : NL} {k : List UInt8} (h : ∀ (j : Nat) (p : List UInt8 × Nat), l[j]? = some p → p.1 ≠ k) : nlFind l k = none := by
  unfold nlFind
  rw [Option.map_eq_none_iff, List.find?_eq_none]
  intro p hp
  obtain ⟨j, hj, rfl⟩ := List.getElem_of_mem hp
  have := h j l[j] (by simp)
  simpa using this
theorem find_at_first {l : NL} {k : List UInt8} {i : Nat} {p : List UInt8 × Nat} (hp : l[i]? = some p) (hk : p.1 = k) (h : ∀ j q, j < i → l[j]? = some q → q.1 ≠ k) : nlFind l k = some p.2 := by
  unfold nlFind
  have : l.find? (fun q => q.1 == k) = some p := by
    rw [List.find?_eq_some_iff_getElem]
    obtain ⟨hi, hpi⟩ := List.getElem?_eq_some_iff.1 hp
    refine ⟨by simpa using hk, i, hi, hpi, fun j hj => ?_⟩
    have := h j l[j] hj (by simp)
    simpa using this
  rw [this]; rfl
/-- find's answer -/
def findI (l : NL) (k : List UInt8) : Int := match nlFind l k with
  | some n => (n : Int)
  | none => -1

set_option maxHeartbeats 1000000 in
theorem rfind_any {w : World} {lo : Nat} {v : Value} {l : NL} (h : NamedAt w lo v l) (k : List UInt8) (hl : l.length ≤ maxLen) :
    Calls Tryz.prog 75 #[v, .string ⟨k.toArray⟩] w fun e w' => e = .returned (.int .i64 (findI l k)) ∧ w = w' := by
  have hmax : maxLen = 9223372036854775807 := rfl
  obtain ⟨a, c, rfl, hat⟩ := h.at_
  have HAT := Lib.hid hat; clear hat
  go_enter Tryz.func75, Tryz.ntmps75
  go_wp2
  go_loop [5] (fun i => ∃ n : Nat, n ≤ l.length ∧ i = .int .i64 n ∧ Hid (∀ j q, j < n → l[j]? = some q → q.1 ≠ k)) (fun i => l.length - (RowKit.intOf i).toNat)
  case atStart => exact ⟨0, by omega, rfl, Lib.hid (fun j q hj => by omega)⟩
  case round =>
    obtain ⟨n, hn, rfl, HA⟩ := hrel
    by_cases hlt : n < l.length
    · obtain ⟨p, hp⟩ : ∃ p, l[n]? = some p := ⟨l[n]'hlt, by simp⟩
      obtain ⟨g, rfl, q0, q1⟩ := HAT.out n p hp
      have j0 : (0 : Int) ≤ (n : Int) := by omega
      have j1 : (n : Int) < (l.length : Int) := by omega
      have HP := Lib.hid hp; clear hp
      by_cases he : p.1 = k
      · have e1 : (p.1 == k) = true := by simpa using he
        have hr : findI l k = (p.2 : Int) := by unfold findI; rw [find_at_first HP.out he HA.out]
        have HR := Lib.hid hr; clear hr he
        go_wp2
        go_ret
        exact ⟨by rw [HR.out]; rfl, rfl⟩
      · have e1 : (p.1 == k) = false := by simpa using he
        have HE := Lib.hid he; clear he
        go_wp2
        go_round
        case rel => exact ⟨n + 1, by omega, by go_num, Lib.hid (fun j q hj hq => by
          by_cases h1 : j = n
          · subst h1; rw [HP.out] at hq; rw [← Option.some.inj hq]; exact HE.out
          · exact HA.out j q (by omega) hq)⟩
        case measure => simp [RowKit.intOf]; omega
    · obtain rfl : n = l.length := by omega
      have hr : findI l k = -1 := by
        unfold findI
        rw [find_at_ne (fun j q hq => HA.out j q (List.getElem?_eq_some_iff.1 hq).1 hq)]
      have HR := Lib.hid hr; clear hr
      go_wp2
      go_ret
      exact ⟨by rw [HR.out]; rfl, rfl⟩

end Go.Proofs.YtgckcnnnblggbaaGreat
/- Disk: New. -/
namespace Go.Proofs.YtgckcnnnblggbaaGreat
open Go.RowKit Go.Maps Go.Shelf

/-- a disk without files -/
def DSt.empty (room : Nat) : DSt := ⟨room, [], [], [], [], [], 0⟩

theorem new_bad {cap : Int} (hc : cap < 0 ∨ 1099511627776 < cap) (w : World) : Calls Tryz.prog 22 #[.int .i64 cap] w fun e w' => e = .returned (.tuple #[.pointer none, .int .i64 2]) ∧ w = w' := by
  have hO : Calls Tryz.prog 6 #[.int .i64 cap, .slice none 0 0] w fun e w' => e = .returned (.tuple #[.pointer none, .int .i64 2]) ∧ w = w' := by
    by_cases h1 : cap < 0
    · have g1 : decide (cap < 0) = true := by simpa using h1
      go_enter Tryz.func6, Tryz.ntmps6
      go_wp2
      go_ret2
      exact ⟨rfl, rfl⟩
    · have g1 : decide (cap < 0) = false := by simpa using h1
      have g2 : decide (1099511627776 < cap) = true := by simp; omega
      go_enter Tryz.func6, Tryz.ntmps6
      go_wp2
      go_ret2
      exact ⟨rfl, rfl⟩
  go_enter Tryz.func22, Tryz.ntmps22
  go_wp2_with (go_at_call 6; refine hO.mono ?_; rintro _ w1 ⟨rfl, rfl⟩)
  go_ret2
  exact ⟨rfl, rfl⟩

set_option maxRecDepth 100000 in
set_option maxHeartbeats 4000000 in
theorem of_none {cap : Nat} (hc : cap ≤ 1099511627776) (w : World) : Calls Tryz.prog 6 #[.int .i64 (cap : Int), .slice none 0 0] w fun e w' => ∃ p own, e = .returned (.tuple #[.pointer (some ⟨p, 0, none⟩), .int .i64 0]) ∧ DiskAt w' p (DSt.empty cap) own (fun b => w.heap.size ≤ b ∧ b < w'.heap.size ∧ b ∉ own) ∧ (∀ b ∈ own, w.heap.size ≤ b) ∧ Below w.heap.size w w' := by
  have g1 : decide ((cap : Int) < 0) = false := by simp
  have g2 : decide (1099511627776 < (cap : Int)) = false := by simp; omega
  have hmk := fun t w => run_makeMap (P := Tryz.prog) t w
  obtain ⟨w3, hw3⟩ : ∃ w3, ((w.alloc (.map #[] 0)).alloc (.map #[] 0)).alloc (.cells #[.int .i64 (cap : Int), .map (some w.heap.size), .map (some (w.heap.size + 1)), .map none, .slice none 0 0, .slice none 0 0, .int .i64 0] 74) = w3 := ⟨_, rfl⟩
  have hb3 : Below w.heap.size w w3 := by rw [← hw3]; exact ((below_alloc w _).alloc (by simp) _).alloc (by simp; omega) _
  have hz3 : w3.heap.size = w.heap.size + 1 + 1 + 1 := by rw [← hw3]; simp
  have hfm : w3.ownsMap Tryz.prog 3 ptrElem w.heap.size 0 (filesD []) := by rw [← hw3]; exact ((World.ownsMap_made w _ _ _).alloc _).alloc _
  have hnm : w3.ownsMap Tryz.prog 9 (plainElem Tryz.prog 3) (w.heap.size + 1) 0 (nameD []) := by rw [← hw3]; have := (World.ownsMap_made (w.alloc (.map #[] 0)) Tryz.prog 9 (plainElem (H := Unit) Tryz.prog 3)).alloc (.cells #[.int .i64 (cap : Int), .map (some w.heap.size), .map (some (w.heap.size + 1)), .map none, .slice none 0 0, .slice none 0 0, .int .i64 0] 74); rwa [World.size_alloc] at this
  have hcl : w3.heap[w.heap.size + 1 + 1]? = some (.cells #[.int .i64 (cap : Int), .map (some w.heap.size), .map (some (w.heap.size + 1)), .map none, .slice none 0 0, .slice none 0 0, .int .i64 0] 74 (0, 0)) := by rw [← hw3]; have := World.alloc_heap_new ((w.alloc (.map #[] 0)).alloc (.map #[] 0)) (.cells #[.int .i64 (cap : Int), .map (some w.heap.size), .map (some (w.heap.size + 1)), .map none, .slice none 0 0, .slice none 0 0, .int .i64 0] 74); rwa [World.size_alloc, World.size_alloc] at this
  have c2 := cell_of_heap hcl (i := 2) (v := .map (some (w.heap.size + 1))) (by rfl)
  have hcn := cloneN_any hnm
  have hplt := heap_lt hcl
  have HZ := Lib.hid hz3; clear hz3
  go_enter Tryz.func6, Tryz.ntmps6
  go_wp2_with fail
  refine wp_loop_rounds 1 ?_
  rw [rounds_succ]
  go_wp2_with (go_at_call 31; refine hcn.mono ?_; rintro _ w4 ⟨rfl, hm4, hb4⟩; have k3 := cell_of_heap ((hb4.block _ hplt).trans hcl) (i := 3) (v := .map none) (by rfl); have z3 := frozen_of_heap (i := 3) ((hb4.block _ hplt).trans hcl))
  go_ret2
  have hz3 := HZ.out
  have hm4s := hm4.lt
  have hs4 := hb4.size
  have hc5 : Chg (· = w.heap.size + 1 + 1) w4 (w4.setCell ⟨w.heap.size + 1 + 1, 3, none⟩ (.map (some w3.heap.size))) := Chg.set _ rfl
  have hcell5 := heap_set_cells (i := 3) (.map (some w3.heap.size)) ((hb4.block _ hplt).trans hcl)
  have hc35 : Chg (· = w.heap.size + 1 + 1) w3 (w4.setCell ⟨w.heap.size + 1 + 1, 3, none⟩ (.map (some w3.heap.size))) := (Chg.of_below hb4).trans hc5 (fun _ h _ => h)
  have hs5 : (w4.setCell ⟨w.heap.size + 1 + 1, 3, none⟩ (.map (some w3.heap.size))).heap.size = w4.heap.size := by simp [World.setCell]
  have hfm5 := hc35.map hfm (by omega)
  have hnm5 := hc35.map hnm (by omega)
  have hm5 := hc5.map hm4 (by omega)
  have hbf : Below w.heap.size w (w4.setCell ⟨w.heap.size + 1 + 1, 3, none⟩ (.map (some w3.heap.size))) := (bthen hb3 hb4).setCell (p := ⟨w.heap.size + 1 + 1, 3, none⟩) (by show _ ≤ w.heap.size + 1 + 1; omega) _
  generalize w4.setCell ⟨w.heap.size + 1 + 1, 3, none⟩ (.map (some w3.heap.size)) = w5 at *
  refine ⟨_, _, rfl, ⟨w.heap.size, w.heap.size + 1, w3.heap.size, [], .slice none 0 0, .slice none 0 0, [], [], 74, ?_, rfl⟩, ?_, hbf⟩
  · exact {
      cells := by simpa [DSt.empty] using hcell5
      filesM := hfm5
      namesM := hnm5
      sureM := hm5
      count := rfl
      file := fun i b d hb => by simp at hb
      stepsR := World.ownsRow_nil _ _ _ _
      step := fun i v x hv => by simp at hv
      writesR := World.ownsRow_nil _ _ _ _
      count4 := rfl
      write := fun i c x hc => by simp at hc
      apart := by simp [ownL, Value.ownBlock]; omega
      own := fun b hb => ⟨by simp [ownL, Value.ownBlock] at hb; omega, fun h => h.2.2 hb⟩
      shared := fun b hb => hb.2.1
      sureR := ⟨by omega, by omega, fun hm => by simp [ownL, Value.ownBlock] at hm; omega⟩ }
  · intro b hb
    simp [ownL, Value.ownBlock] at hb
    omega

theorem new_any {cap : Nat} (hc : cap ≤ 1099511627776) (w : World) : Calls Tryz.prog 22 #[.int .i64 (cap : Int)] w fun e w' => ∃ p own, e = .returned (.tuple #[.pointer (some ⟨p, 0, none⟩), .int .i64 0]) ∧ DiskAt w' p (DSt.empty cap) own (fun b => w.heap.size ≤ b ∧ b < w'.heap.size ∧ b ∉ own) ∧ (∀ b ∈ own, w.heap.size ≤ b) ∧ Below w.heap.size w w' := by
  have hO := of_none hc w
  go_enter Tryz.func22, Tryz.ntmps22
  go_wp2_with (go_at_call 6; refine hO.mono ?_; rintro _ w1 ⟨p, own, rfl, hD, ho, hb⟩)
  go_ret2
  exact ⟨p, own, rfl, hD, ho, hb⟩

end Go.Proofs.YtgckcnnnblggbaaGreat
