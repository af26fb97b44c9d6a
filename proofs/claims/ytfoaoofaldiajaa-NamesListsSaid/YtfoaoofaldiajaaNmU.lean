/- The plain law of Each: the name of a kind and a number; where the map leads. -/
import Derived.Test.YtfoaoofaldiajaaNm8
import Derived.Test.YtfoaoofaldiajaaNmT
namespace Go.Proofs.Ytfoaoofaldiajaa
open Go.RowKit Go.Maps

/-- the name of a kind and a number -/
def refNameL (kind : Int) (n : Nat) : List UInt8 := if kind = 1 then nameL 106 n 16 else if kind = 2 then nameL 115 n 16 else if kind = 3 then pointL else otherL

theorem numOf_inv {h : UInt8} {r : List UInt8} {k n : Nat} (hr : r.length = 16) (hk : k ≠ 0) (e : numOf h r = (k, n)) : (k = 1 ∨ k = 2) ∧ h :: r = refNameL k n := by
  unfold numOf at e
  split at e
  · simp at e; omega
  · rename_i hk0
    split at e
    · rename_i m hm
      split at e
      · simp at e
        obtain ⟨rfl, rfl⟩ := e
        have hd : digs m 16 = r := by
          have h2 := digs_of (n := m) (by assumption)
          exact (digsFrom_inj _ _ 0 0 m (by rw [digs_len, hr]) h2 hm).2
        unfold kindOf at hk0 ⊢
        by_cases h1 : h = 115
        · subst h1; refine ⟨.inr (by simp), ?_⟩; simp [refNameL, nameL_digs, hd]
        · by_cases h2 : h = 106
          · subst h2; refine ⟨.inl (by simp), ?_⟩; simp [refNameL, nameL_digs, hd]
          · simp [h1, h2] at hk0
      · simp at e; omega
    · simp at e; omega
theorem parse_inv {l : List UInt8} {k n : Nat} (hk : k ≠ 0) (e : parse l = (k, n)) : l = refNameL k n := by
  unfold parse at e
  split at e
  · rename_i h; simp at e; obtain ⟨rfl, rfl⟩ := e; rw [h]; simp [refNameL]
  · split at e
    · rename_i h; simp at e; obtain ⟨rfl, rfl⟩ := e; rw [h]; simp [refNameL]
    · split at e
      · simp at e; omega
      · rename_i hlen
        split at e
        · exact (numOf_inv (by simp at hlen; exact hlen) hk e).2
        · simp at e; omega

theorem at_numMap (kind : Int) (L : List (List UInt8)) (x : Int) (zd : DataW Unit) : ∀ k, k ≤ L.length → has (numMap kind L k) (.int .i64 x) = true →
    ∃ j, ∃ hj : j < L.length, (numMap kind L k).atKey (.int .i64 x) zd = .lit (.int .i64 j) ∧ ((parse L[j]).1 : Int) = kind ∧ ((parse L[j]).2 : Int) = x
  | 0, _, h => by simp [numMap, has] at h
  | k + 1, hk, h => by
    have e : L.getD k [] = L[k] := by simp [List.getD, (by omega : k < L.length)]
    unfold numMap at h ⊢
    rw [e] at h ⊢
    by_cases h1 : ((parse L[k]).1 : Int) = kind
    · rw [if_pos h1] at h ⊢
      by_cases h2 : ((parse L[k]).2 : Int) = x
      · rw [h2, atKey_put_same (numMap_isMap kind L k) (keyLit_int _ _)]
        exact ⟨k, by omega, rfl, h1, h2⟩
      · rw [has_put_other (by intro e; apply h2; simpa using e.symm)] at h
        rw [atKey_put_other (by intro e; apply h2; simpa using e.symm)]
        exact at_numMap kind L x zd k (by omega) h
    · rw [if_neg h1] at h ⊢
      exact at_numMap kind L x zd k (by omega) h

/-- WHAT A CLOSURE OF Each HOLDS: three boxes: the numbers, the names, the map -/
structure EachAt (kind : Int) (L : List (List UInt8)) (ns : List Int) (lo hi : Nat) (w : World) (b5 b3 b6 : Nat) (v : Value) (a : Option Addr) (cap mb nn : Nat) (D : DataW Unit) : Prop where
  box5 : Boxed w b5 24 v
  box3 : Boxed w b3 22 (.slice a L.length cap)
  box6 : Boxed w b6 52 (.map (some mb))
  row : w.ownsRow lo 2 1 v ns.length (ns.map (Value.int .i64))
  names : RowAt w a (L.map sv)
  map : w.ownsMap Try.prog 2 (plainElem Try.prog 3) mb nn D
  num : IsNums kind L ns
  leads : ∀ x ∈ ns, ∀ zd, ∃ j, ∃ hj : j < L.length, D.atKey (.int .i64 x) zd = .lit (.int .i64 j) ∧ ((parse L[j]).1 : Int) = kind ∧ ((parse L[j]).2 : Int) = x
  lo5 : lo ≤ b5
  lo3 : lo ≤ b3
  lo6 : lo ≤ b6
  lom : lo ≤ mb
  loa : ∀ b off sp, a = some ⟨b, off, sp⟩ → lo ≤ b
  hi5 : b5 < hi
  hi3 : b3 < hi
  hi6 : b6 < hi
  him : mb < hi
  hia : ∀ b off sp, a = some ⟨b, off, sp⟩ → b < hi
  hir : ∀ g, v.ownBlock = some g → g < hi
  size : hi ≤ w.heap.size

/-- what a round keeps: the blocks from lo to hi -/
def KpIn (lo hi : Nat) (W W' : World) : Prop := W.heap.size ≤ W'.heap.size ∧ ∀ b, lo ≤ b → b < hi → W'.heap[b]? = W.heap[b]?
theorem KpIn.trans {lo hi : Nat} {A B C : World} (h : KpIn lo hi A B) (k : KpIn lo hi B C) : KpIn lo hi A C := ⟨Nat.le_trans h.1 k.1, fun b h1 h2 => (k.2 b h1 h2).trans (h.2 b h1 h2)⟩
theorem KpIn.refl (lo hi : Nat) (A : World) : KpIn lo hi A A := ⟨Nat.le_refl _, fun _ _ _ => rfl⟩
theorem KpIn.of_below {lo hi : Nat} {A B : World} (h : Below hi A B) : KpIn lo hi A B := ⟨h.size, fun b _ h2 => h.block b h2⟩
theorem KpIn.alloc {lo hi : Nat} {A B : World} (h : KpIn lo hi A B) (hs : hi ≤ B.heap.size) (o : Obj) : KpIn lo hi A (B.alloc o) :=
  h.trans ⟨by simp, fun b _ h2 => Below.heap_alloc _ _ _ (by omega)⟩
theorem KpIn.setCell {lo hi : Nat} {A B : World} (h : KpIn lo hi A B) (p : Addr) (hp : p.block < lo ∨ hi ≤ p.block) (v : Value) : KpIn lo hi A (B.setCell p v) :=
  h.trans ⟨by simp [World.setCell], fun b h1 h2 => Below.heap_setCell _ _ _ _ (by omega)⟩

end Go.Proofs.Ytfoaoofaldiajaa
