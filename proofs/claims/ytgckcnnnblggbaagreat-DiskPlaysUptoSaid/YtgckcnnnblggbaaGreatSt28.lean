/- Texts of this claim, one behind the other: RdQ. -/
import Derived.Test.YtgckcnnnblggbaaGreatSt27
set_option linter.unusedSimpArgs false
set_option linter.unusedVariables false
/- The document's disk: Of: the rows that are being made. (printed by gen/ofr.py) -/
namespace Go.Proofs.YtgckcnnnblggbaaGreat
open Go.RowKit Go.Maps

/-- the blocks that are written -/
def OfOwn (po : Nat) (vst vla vna : Value) (b : Nat) : Prop := b = po ∨ vst.ownBlock = some b ∨ vla.ownBlock = some b ∨ vna.ownBlock = some b
/-- a disk of files that is being made at po: i of what stands, j of what lasts, k names -/
structure OfR (w wr : World) (po cap : Nat) (L : List (List UInt8 × List UInt8)) (i j k : Nat) (vst vla vna : Value) (xs ys : List Value) : Prop where
  hb : Below w.heap.size w wr
  lo : w.heap.size ≤ po
  cells : wr.heap[po]? = some (.cells #[.int .i64 (cap : Int), vst, vla, vna, .slice none 0 0, .slice none 0 0, .slice none 0 0, .int .i64 0] 86 (0, 0))
  st : wr.ownsRow w.heap.size 36 1 vst i xs
  la : wr.ownsRow w.heap.size 36 1 vla j ys
  na : wr.ownsRow w.heap.size 88 2 vna k (((ofNames (L.take k)).map encN).flatten)
  xst : ∀ (a : Nat) x d, xs[a]? = some x → L[a]? = some d → BytesIn wr (fun b => w.heap.size ≤ b ∧ b < wr.heap.size ∧ ¬ OfOwn po vst vla vna b) x d.2
  yla : ∀ (a : Nat) x d, ys[a]? = some x → L[a]? = some d → BytesIn wr (fun b => w.heap.size ≤ b ∧ b < wr.heap.size ∧ ¬ OfOwn po vst vla vna b) x d.2
  ap1 : ∀ b, vst.ownBlock = some b → b ≠ po ∧ vla.ownBlock ≠ some b ∧ vna.ownBlock ≠ some b
  ap2 : ∀ b, vla.ownBlock = some b → b ≠ po ∧ vna.ownBlock ≠ some b
  ap3 : ∀ b, vna.ownBlock = some b → b ≠ po
theorem app_one' {α : Type} {l : List α} {L : List (List UInt8 × List UInt8)} {x v : α} {d y : List UInt8 × List UInt8} {i a : Nat} (hl : l.length = i) (hd : L[i]? = some d) (h1 : (l ++ [x])[a]? = some v) (h2 : L[a]? = some y) : (l[a]? = some v ∧ L[a]? = some y) ∨ (v = x ∧ y = d) := by
  rw [List.getElem?_append] at h1
  split at h1
  · exact .inl ⟨h1, h2⟩
  · right
    have h3 := (List.getElem?_eq_some_iff.1 h1).1
    simp at h3
    have ha : a = i := by omega
    subst ha
    rw [show a - l.length = 0 from by omega] at h1
    simp at h1
    rw [hd] at h2
    exact ⟨h1.symm, (Option.some.inj h2).symm⟩
theorem OfR.start (w : World) (cap : Nat) (L : List (List UInt8 × List UInt8)) : OfR w (w.alloc (.cells #[.int .i64 (cap : Int), .slice none 0 0, .slice none 0 0, .slice none 0 0, .slice none 0 0, .slice none 0 0, .slice none 0 0, .int .i64 0] 86)) w.heap.size cap L 0 0 0 (.slice none 0 0) (.slice none 0 0) (.slice none 0 0) [] [] where
  hb := below_alloc w _
  lo := Nat.le_refl _
  cells := World.alloc_heap_new w _
  st := World.ownsRow_nil _ _ _ _
  la := World.ownsRow_nil _ _ _ _
  na := by simpa [ofNames] using World.ownsRow_nil _ _ _ _
  xst := fun a x d hx => by simp at hx
  yla := fun a x d hx => by simp at hx
  ap1 := fun b h => by cases h
  ap2 := fun b h => by cases h
  ap3 := fun b h => by cases h
theorem ofNames_take_succ {L : List (List UInt8 × List UInt8)} {k : Nat} {d : List UInt8 × List UInt8} (hd : L[k]? = some d) (hk : k ≤ L.length) : ofNames (L.take (k + 1)) = ofNames (L.take k) ++ [(d.1, k)] := by
  obtain ⟨h, e⟩ := List.getElem?_eq_some_iff.1 hd
  rw [List.take_succ_eq_append_getElem h, e, ofNames_append]
  simp only [List.length_take, Nat.min_eq_left hk]
theorem OfR.stand {w wr w2 w5 : World} {po cap i j k g : Nat} {L : List (List UInt8 × List UInt8)} {vst vla vna v5 u : Value} {xs ys : List Value} {d : List UInt8 × List UInt8} (h : OfR w wr po cap L i j k vst vla vna xs ys) (hb2 : Below wr.heap.size wr w2) (hu : BytesIn w2 (fun b => wr.heap.size ≤ b ∧ b < w2.heap.size) u d.2) (hd : L[i]? = some d) (hc : Chg (fun b => vst.ownBlock = some b) w2 w5)
    (h5 : w5.ownsRow w.heap.size 36 1 v5 (i + 1) (xs ++ [u])) (hat : v5.ownBlock = vst.ownBlock ∨ v5.ownBlock = some g) (hg : w2.heap.size ≤ g) (hg5 : v5.ownBlock = some g → g < w5.heap.size) : OfR w (w5.setCell ⟨po, 1, none⟩ v5) po cap L (i + 1) j k v5 vla vna (xs ++ [u]) ys := by
  have hpo := heap_lt h.cells
  have l1 := fun b hb => (h.st.lt b hb).2
  have l2 := fun b hb => (h.la.lt b hb).2
  have l3 := fun b hb => (h.na.lt b hb).2
  have o1 := fun b hb => (h.st.lt b hb).1
  have o2 := fun b hb => (h.la.lt b hb).1
  have o3 := fun b hb => (h.na.lt b hb).1
  have hlo := h.lo
  have hs2 := hb2.size
  have hs5 := hc.size
  have hsb := h.hb.size
  have a1 := h.ap1
  have a2 := h.ap2
  have a3 := h.ap3
  have hvg : ∀ b, v5.ownBlock = some b → vst.ownBlock = some b ∨ w2.heap.size ≤ b := fun b hb => by
    rcases hat with e | e
    · exact .inl (e ▸ hb)
    · rw [e] at hb; cases hb; exact .inr hg
  have hv5po : ∀ b, v5.ownBlock = some b → b ≠ po := fun b hb e => by
    rcases hvg b hb with hq | hq
    · subst e; exact (a1 _ hq).1 rfl
    · omega
  have hset : Chg (· = po) w5 (w5.setCell ⟨po, 1, none⟩ v5) := Chg.set _ rfl
  have hob2 := (Chg.of_below (O := fun _ => False) hb2).obj h.cells (fun h => h)
  have hob5 := hc.obj hob2 (fun e => (a1 _ e).1 rfl)
  have hcell := heap_set_cells (i := 1) v5 hob5
  generalize w5.setCell ⟨po, 1, none⟩ v5 = w6 at *
  have hc26 : Chg (fun b => vst.ownBlock = some b ∨ b = po) w2 w6 := (hc.mono (O' := fun b => vst.ownBlock = some b ∨ b = po) (fun _ h _ => .inl h)).trans hset (fun _ h _ => .inr h)
  have hcr6 : Chg (fun b => vst.ownBlock = some b ∨ b = po) wr w6 := (Chg.of_below hb2).trans hc26 (fun _ h _ => h)
  have hs6 := hset.size
  have hw6 : Chg (fun _ => False) w w6 := (Chg.of_below h.hb).trans hcr6 (fun b hb hlt => by
    rcases hb with hb | hb
    · have := o1 b hb; omega
    · omega)
  have hown : ∀ b, b < wr.heap.size → ¬ OfOwn po vst vla vna b → ¬ OfOwn po v5 vla vna b := fun b hlt hn ho => by
    unfold OfOwn at hn ho
    have := hvg b
    have hw : b < w2.heap.size := by omega
    grind
  exact {
    hb := hw6.below (fun _ h => h.elim)
    lo := hlo
    cells := hcell
    st := hset.row h5 hv5po
    la := hcr6.row h.la (fun b hb ho => by rcases ho with ho | ho; exact (a1 b ho).2.1 hb; exact (a2 b hb).1 ho)
    na := hcr6.row h.na (fun b hb ho => by rcases ho with ho | ho; exact (a1 b ho).2.2 hb; exact a3 b hb ho)
    xst := fun a x y h1 h2 => by
      rcases app_one' (by have := h.st.1; omega) hd h1 h2 with ⟨h1, h2⟩ | ⟨rfl, rfl⟩
      · exact (h.xst a x y h1 h2).kept (R' := fun b => w.heap.size ≤ b ∧ b < w6.heap.size ∧ ¬ OfOwn po v5 vla vna b) hcr6 (fun b hb ho => hb.2.2 (by unfold OfOwn; rcases ho with ho | ho; exact .inr (.inl ho); exact .inl ho)) (fun b hb => ⟨hb.1, by have := hb.2.1; omega, hown b hb.2.1 hb.2.2⟩)
      · exact hu.kept hc26 (fun b hb ho => by rcases ho with ho | ho; have := l1 b ho; omega; omega) (fun b hb => ⟨by omega, by have := hb.2; omega, fun ho => by
          have := hvg b
          have h1 := l1 b
          have h2 := l2 b
          have h3 := l3 b
          have h4 := hb.1
          have h5 := hb.2
          unfold OfOwn at ho
          grind⟩)
    yla := fun a x y h1 h2 => (h.yla a x y h1 h2).kept (R' := fun b => w.heap.size ≤ b ∧ b < w6.heap.size ∧ ¬ OfOwn po v5 vla vna b) hcr6 (fun b hb ho => hb.2.2 (by unfold OfOwn; rcases ho with ho | ho; exact .inr (.inl ho); exact .inl ho)) (fun b hb => ⟨hb.1, by have := hb.2.1; omega, hown b hb.2.1 hb.2.2⟩)
    ap1 := fun b hb => by have := hvg b; have := hv5po b; have h1 := l1 b; have h2 := l2 b; have h3 := l3 b; have := a1 b; have := a2 b; have := a3 b; grind
    ap2 := fun b hb => by have := hvg b; have := hv5po b; have h1 := l1 b; have h2 := l2 b; have h3 := l3 b; have := a1 b; have := a2 b; have := a3 b; grind
    ap3 := fun b hb => by have := hvg b; have := hv5po b; have h1 := l1 b; have h2 := l2 b; have h3 := l3 b; have := a1 b; have := a2 b; have := a3 b; grind }
theorem OfR.last {w wr w2 w5 : World} {po cap i j k g : Nat} {L : List (List UInt8 × List UInt8)} {vst vla vna v5 u : Value} {xs ys : List Value} {d : List UInt8 × List UInt8} (h : OfR w wr po cap L i j k vst vla vna xs ys) (hb2 : Below wr.heap.size wr w2) (hu : BytesIn w2 (fun b => wr.heap.size ≤ b ∧ b < w2.heap.size) u d.2) (hd : L[j]? = some d) (hc : Chg (fun b => vla.ownBlock = some b) w2 w5)
    (h5 : w5.ownsRow w.heap.size 36 1 v5 (j + 1) (ys ++ [u])) (hat : v5.ownBlock = vla.ownBlock ∨ v5.ownBlock = some g) (hg : w2.heap.size ≤ g) (hg5 : v5.ownBlock = some g → g < w5.heap.size) : OfR w (w5.setCell ⟨po, 2, none⟩ v5) po cap L i (j + 1) k vst v5 vna xs (ys ++ [u]) := by
  have hpo := heap_lt h.cells
  have l1 := fun b hb => (h.st.lt b hb).2
  have l2 := fun b hb => (h.la.lt b hb).2
  have l3 := fun b hb => (h.na.lt b hb).2
  have o1 := fun b hb => (h.st.lt b hb).1
  have o2 := fun b hb => (h.la.lt b hb).1
  have o3 := fun b hb => (h.na.lt b hb).1
  have hlo := h.lo
  have hs2 := hb2.size
  have hs5 := hc.size
  have hsb := h.hb.size
  have a1 := h.ap1
  have a2 := h.ap2
  have a3 := h.ap3
  have hvg : ∀ b, v5.ownBlock = some b → vla.ownBlock = some b ∨ w2.heap.size ≤ b := fun b hb => by
    rcases hat with e | e
    · exact .inl (e ▸ hb)
    · rw [e] at hb; cases hb; exact .inr hg
  have hv5po : ∀ b, v5.ownBlock = some b → b ≠ po := fun b hb e => by
    rcases hvg b hb with hq | hq
    · subst e; exact (a2 _ hq).1 rfl
    · omega
  have hset : Chg (· = po) w5 (w5.setCell ⟨po, 2, none⟩ v5) := Chg.set _ rfl
  have hob2 := (Chg.of_below (O := fun _ => False) hb2).obj h.cells (fun h => h)
  have hob5 := hc.obj hob2 (fun e => (a2 _ e).1 rfl)
  have hcell := heap_set_cells (i := 2) v5 hob5
  generalize w5.setCell ⟨po, 2, none⟩ v5 = w6 at *
  have hc26 : Chg (fun b => vla.ownBlock = some b ∨ b = po) w2 w6 := (hc.mono (O' := fun b => vla.ownBlock = some b ∨ b = po) (fun _ h _ => .inl h)).trans hset (fun _ h _ => .inr h)
  have hcr6 : Chg (fun b => vla.ownBlock = some b ∨ b = po) wr w6 := (Chg.of_below hb2).trans hc26 (fun _ h _ => h)
  have hs6 := hset.size
  have hw6 : Chg (fun _ => False) w w6 := (Chg.of_below h.hb).trans hcr6 (fun b hb hlt => by
    rcases hb with hb | hb
    · have := o2 b hb; omega
    · omega)
  have hown : ∀ b, b < wr.heap.size → ¬ OfOwn po vst vla vna b → ¬ OfOwn po vst v5 vna b := fun b hlt hn ho => by
    unfold OfOwn at hn ho
    have := hvg b
    have hw : b < w2.heap.size := by omega
    grind
  exact {
    hb := hw6.below (fun _ h => h.elim)
    lo := hlo
    cells := hcell
    st := hcr6.row h.st (fun b hb ho => by rcases ho with ho | ho; exact (a1 b hb).2.1 ho; exact (a1 b hb).1 ho)
    la := hset.row h5 hv5po
    na := hcr6.row h.na (fun b hb ho => by rcases ho with ho | ho; exact (a2 b ho).2 hb; exact a3 b hb ho)
    xst := fun a x y h1 h2 => (h.xst a x y h1 h2).kept (R' := fun b => w.heap.size ≤ b ∧ b < w6.heap.size ∧ ¬ OfOwn po vst v5 vna b) hcr6 (fun b hb ho => hb.2.2 (by unfold OfOwn; rcases ho with ho | ho; exact .inr (.inr (.inl ho)); exact .inl ho)) (fun b hb => ⟨hb.1, by have := hb.2.1; omega, hown b hb.2.1 hb.2.2⟩)
    yla := fun a x y h1 h2 => by
      rcases app_one' (by have := h.la.1; omega) hd h1 h2 with ⟨h1, h2⟩ | ⟨rfl, rfl⟩
      · exact (h.yla a x y h1 h2).kept (R' := fun b => w.heap.size ≤ b ∧ b < w6.heap.size ∧ ¬ OfOwn po vst v5 vna b) hcr6 (fun b hb ho => hb.2.2 (by unfold OfOwn; rcases ho with ho | ho; exact .inr (.inr (.inl ho)); exact .inl ho)) (fun b hb => ⟨hb.1, by have := hb.2.1; omega, hown b hb.2.1 hb.2.2⟩)
      · exact hu.kept hc26 (fun b hb ho => by rcases ho with ho | ho; have := l2 b ho; omega; omega) (fun b hb => ⟨by omega, by have := hb.2; omega, fun ho => by
          have := hvg b
          have h1 := l1 b
          have h2 := l2 b
          have h3 := l3 b
          have h4 := hb.1
          have h5 := hb.2
          unfold OfOwn at ho
          grind⟩)
    ap1 := fun b hb => by have := hvg b; have := hv5po b; have h1 := l1 b; have h2 := l2 b; have h3 := l3 b; have := a1 b; have := a2 b; have := a3 b; grind
    ap2 := fun b hb => by have := hvg b; have := hv5po b; have h1 := l1 b; have h2 := l2 b; have h3 := l3 b; have := a1 b; have := a2 b; have := a3 b; grind
    ap3 := fun b hb => by have := hvg b; have := hv5po b; have h1 := l1 b; have h2 := l2 b; have h3 := l3 b; have := a1 b; have := a2 b; have := a3 b; grind }
theorem OfR.name {w wr w2 w5 : World} {po cap i j k g : Nat} {L : List (List UInt8 × List UInt8)} {vst vla vna v5 u : Value} {xs ys : List Value} {d : List UInt8 × List UInt8} (h : OfR w wr po cap L i j k vst vla vna xs ys) (hb2 : Below wr.heap.size wr w2) (hd : L[k]? = some d) (hkl : k ≤ L.length) (hc : Chg (fun b => vna.ownBlock = some b) w2 w5)
    (h5 : w5.ownsRow w.heap.size 88 2 v5 (k + 1) (((ofNames (L.take k)).map encN).flatten ++ encN (d.1, k))) (hat : v5.ownBlock = vna.ownBlock ∨ v5.ownBlock = some g) (hg : w2.heap.size ≤ g) (hg5 : v5.ownBlock = some g → g < w5.heap.size) : OfR w (w5.setCell ⟨po, 3, none⟩ v5) po cap L i j (k + 1) vst vla v5 xs ys := by
  have hpo := heap_lt h.cells
  have l1 := fun b hb => (h.st.lt b hb).2
  have l2 := fun b hb => (h.la.lt b hb).2
  have l3 := fun b hb => (h.na.lt b hb).2
  have o1 := fun b hb => (h.st.lt b hb).1
  have o2 := fun b hb => (h.la.lt b hb).1
  have o3 := fun b hb => (h.na.lt b hb).1
  have hlo := h.lo
  have hs2 := hb2.size
  have hs5 := hc.size
  have hsb := h.hb.size
  have a1 := h.ap1
  have a2 := h.ap2
  have a3 := h.ap3
  have hvg : ∀ b, v5.ownBlock = some b → vna.ownBlock = some b ∨ w2.heap.size ≤ b := fun b hb => by
    rcases hat with e | e
    · exact .inl (e ▸ hb)
    · rw [e] at hb; cases hb; exact .inr hg
  have hv5po : ∀ b, v5.ownBlock = some b → b ≠ po := fun b hb e => by
    rcases hvg b hb with hq | hq
    · subst e; exact a3 _ hq rfl
    · omega
  have hset : Chg (· = po) w5 (w5.setCell ⟨po, 3, none⟩ v5) := Chg.set _ rfl
  have hob2 := (Chg.of_below (O := fun _ => False) hb2).obj h.cells (fun h => h)
  have hob5 := hc.obj hob2 (fun e => a3 _ e rfl)
  have hcell := heap_set_cells (i := 3) v5 hob5
  generalize w5.setCell ⟨po, 3, none⟩ v5 = w6 at *
  have hc26 : Chg (fun b => vna.ownBlock = some b ∨ b = po) w2 w6 := (hc.mono (O' := fun b => vna.ownBlock = some b ∨ b = po) (fun _ h _ => .inl h)).trans hset (fun _ h _ => .inr h)
  have hcr6 : Chg (fun b => vna.ownBlock = some b ∨ b = po) wr w6 := (Chg.of_below hb2).trans hc26 (fun _ h _ => h)
  have hs6 := hset.size
  have hw6 : Chg (fun _ => False) w w6 := (Chg.of_below h.hb).trans hcr6 (fun b hb hlt => by
    rcases hb with hb | hb
    · have := o3 b hb; omega
    · omega)
  have hown : ∀ b, b < wr.heap.size → ¬ OfOwn po vst vla vna b → ¬ OfOwn po vst vla v5 b := fun b hlt hn ho => by
    unfold OfOwn at hn ho
    have := hvg b
    have hw : b < w2.heap.size := by omega
    grind
  exact {
    hb := hw6.below (fun _ h => h.elim)
    lo := hlo
    cells := hcell
    st := hcr6.row h.st (fun b hb ho => by rcases ho with ho | ho; exact (a1 b hb).2.2 ho; exact (a1 b hb).1 ho)
    la := hcr6.row h.la (fun b hb ho => by rcases ho with ho | ho; exact (a2 b hb).2 ho; exact (a2 b hb).1 ho)
    na := by
      rw [ofNames_take_succ hd hkl, List.map_append, List.flatten_append]
      simpa using hset.row h5 hv5po
    xst := fun a x y h1 h2 => (h.xst a x y h1 h2).kept (R' := fun b => w.heap.size ≤ b ∧ b < w6.heap.size ∧ ¬ OfOwn po vst vla v5 b) hcr6 (fun b hb ho => hb.2.2 (by unfold OfOwn; rcases ho with ho | ho; exact .inr (.inr (.inr ho)); exact .inl ho)) (fun b hb => ⟨hb.1, by have := hb.2.1; omega, hown b hb.2.1 hb.2.2⟩)
    yla := fun a x y h1 h2 => (h.yla a x y h1 h2).kept (R' := fun b => w.heap.size ≤ b ∧ b < w6.heap.size ∧ ¬ OfOwn po vst vla v5 b) hcr6 (fun b hb ho => hb.2.2 (by unfold OfOwn; rcases ho with ho | ho; exact .inr (.inr (.inr ho)); exact .inl ho)) (fun b hb => ⟨hb.1, by have := hb.2.1; omega, hown b hb.2.1 hb.2.2⟩)
    ap1 := fun b hb => by have := hvg b; have := hv5po b; have h1 := l1 b; have h2 := l2 b; have h3 := l3 b; have := a1 b; have := a2 b; have := a3 b; grind
    ap2 := fun b hb => by have := hvg b; have := hv5po b; have h1 := l1 b; have h2 := l2 b; have h3 := l3 b; have := a1 b; have := a2 b; have := a3 b; grind
    ap3 := fun b hb => by have := hvg b; have := hv5po b; have h1 := l1 b; have h2 := l2 b; have h3 := l3 b; have := a1 b; have := a2 b; have := a3 b; grind }

end Go.Proofs.YtgckcnnnblggbaaGreat
