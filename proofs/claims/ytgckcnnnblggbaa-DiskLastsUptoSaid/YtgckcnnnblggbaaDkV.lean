/- Disk: plain: what steps do to names; what a stop lays. No program in sight. -/
import Derived.Test.YtgckcnnnblggbaaDkM
namespace Go.Proofs.Ytgckcnnnblggbaa
open Go.RowKit Go.Maps

/-- names that are well made: rising, names all, and files below F -/
structure NamesOk (l : NL) (F : Nat) : Prop where
  rising : Rising l
  each : ∀ p ∈ l, p.2 < F ∧ NameOk p.1

theorem mem_nlDel {l : NL} {k : List UInt8} {p : List UInt8 × Nat} : p ∈ nlDel l k ↔ p ∈ l ∧ p.1 ≠ k := by
  unfold nlDel; rw [List.mem_filter]; simp
theorem mem_nlIns {x y : List UInt8 × Nat} : ∀ {l : NL}, y ∈ nlIns x l ↔ y = x ∨ y ∈ l
  | [] => by simp [nlIns]
  | z :: r => by
    unfold nlIns
    split
    · simp
    · rw [List.mem_cons, mem_nlIns, List.mem_cons]
      constructor
      · rintro (h | h | h)
        · exact .inr (.inl h)
        · exact .inl h
        · exact .inr (.inr h)
      · rintro (h | h | h)
        · exact .inr (.inl h)
        · exact .inl h
        · exact .inr (.inr h)
theorem mem_nlPut {l : NL} {k : List UInt8} {n : Nat} {p : List UInt8 × Nat} : p ∈ nlPut l k n ↔ p = (k, n) ∨ (p ∈ l ∧ p.1 ≠ k) := by
  unfold nlPut; rw [mem_nlIns, mem_nlDel]
theorem rising_del {l : NL} (h : Rising l) (k : List UInt8) : Rising (nlDel l k) := List.Pairwise.filter _ h
theorem before_trans {a b c : List UInt8} (h1 : bytesBefore a b = true) (h2 : bytesBefore b c = true) : bytesBefore a c = true := WideShapes.bytes_trans a b c h1 h2
theorem rising_ins {x : List UInt8 × Nat} : ∀ {l : NL}, Rising l → (∀ p ∈ l, p.1 ≠ x.1) → Rising (nlIns x l)
  | [], _, _ => by simp [nlIns, Rising]
  | z :: r, h, hn => by
    obtain ⟨h1, h2⟩ := List.pairwise_cons.1 h
    unfold nlIns
    split
    · rename_i hb
      refine List.pairwise_cons.2 ⟨fun p hp => ?_, h⟩
      rcases List.mem_cons.1 hp with rfl | hp
      · exact hb
      · exact before_trans hb (h1 p hp)
    · rename_i hb
      have hzx : bytesBefore z.1 x.1 = true := by
        rcases WideAt.bytes_total x.1 z.1 (fun e => hn z List.mem_cons_self e.symm) with h3 | h3
        · exact absurd h3 hb
        · exact h3
      refine List.pairwise_cons.2 ⟨fun p hp => ?_, rising_ins h2 (fun p hp => hn p (List.mem_cons_of_mem _ hp))⟩
      rcases mem_nlIns.1 hp with rfl | hp
      · exact hzx
      · exact h1 p hp
theorem rising_put {l : NL} (h : Rising l) (k : List UInt8) (n : Nat) : Rising (nlPut l k n) := rising_ins (rising_del h k) (fun p hp => (mem_nlDel.1 hp).2)
theorem NamesOk.put {l : NL} {F n : Nat} {k : List UInt8} (h : NamesOk l F) (hk : NameOk k) (hn : n < F) : NamesOk (nlPut l k n) F :=
  ⟨rising_put h.rising k n, fun p hp => by rcases mem_nlPut.1 hp with rfl | ⟨hp, _⟩; exact ⟨hn, hk⟩; exact h.each p hp⟩
theorem NamesOk.del {l : NL} {F : Nat} (h : NamesOk l F) (k : List UInt8) : NamesOk (nlDel l k) F := ⟨rising_del h.rising k, fun p hp => h.each p (mem_nlDel.1 hp).1⟩
theorem nlFind_mem' {l : NL} {k : List UInt8} {n : Nat} (h : nlFind l k = some n) : (k, n) ∈ l := by
  unfold nlFind at h
  obtain ⟨p, hp, rfl⟩ := Option.map_eq_some_iff.1 h
  have h1 := List.mem_of_find?_eq_some hp
  have h2 := List.find?_some hp
  simp at h2
  rw [← h2]; exact h1
theorem NamesOk.step {l : NL} {F : Nat} {x : NStep} (h : NamesOk l F) (hx : StepOk F x) : NamesOk (doStep l x) F := by
  cases x with
  | create k n => exact h.put hx.2 hx.1
  | rename f t =>
    simp only [doStep]
    split
    · rename_i n hf; exact (h.del f).put hx.2 (h.each _ (nlFind_mem' hf)).1
    · exact h
  | remove k => exact h.del k
theorem NamesOk.steps {l : NL} {F : Nat} {xs : List NStep} (h : NamesOk l F) (hx : ∀ x ∈ xs, StepOk F x) : NamesOk (xs.foldl doStep l) F := by
  induction xs generalizing l with
  | nil => exact h
  | cons x r ih => exact ih (h.step (hx x List.mem_cons_self)) (fun y hy => hx y (List.mem_cons_of_mem _ hy))

/-! ### a stop, as the program reckons it -/
/-- the writes that are kept, in order -/
def keptW (s : DSt) (l : NL) (keep : List Bool) (i : Nat) : List Wr := ((s.writes.zipIdx.take i).filter fun p => leadsTo l p.1.file && keep.getD p.2 false).map (·.1)
/-- the place of the last of them that is no cut, looked for from behind -/
def lastW (K : List Wr) : Nat → Option Nat
  | 0 => none
  | k + 1 => if (K[k]?.map (·.cut)).getD false then lastW K k else some k
/-- how much of the i-th kept write is laid -/
def sizeW (last : Option Nat) (torn : Int) (i : Nat) (x : Wr) : Nat := if last = some i ∧ 0 ≤ torn then min x.data.length torn.toNat else x.data.length
/-- the bytes of the files behind the first i kept writes -/
def dataW (s : DSt) (K : List Wr) (last : Option Nat) (torn : Int) : Nat → Nat → List UInt8
  | 0, f => s.lasts f
  | i + 1, f => match K[i]? with
    | some x => if x.file = f then laid (dataW s K last torn i f) x (sizeW last torn i x) else dataW s K last torn i f
    | none => dataW s K last torn i f

end Go.Proofs.Ytgckcnnnblggbaa
