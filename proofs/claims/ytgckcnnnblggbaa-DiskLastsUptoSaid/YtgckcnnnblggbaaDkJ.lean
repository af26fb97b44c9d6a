/- Disk: the pending writes of a file go: slices.DeleteFunc at structs of four cells. -/
import Derived.Test.YtgckcnnnblggbaaDkI
namespace Go.Proofs.Ytgckcnnnblggbaa
open Go.RowKit Go.Maps Go.Shelf

/-- a pending write as it lies: the file, how many bytes, is it a cut, the function -/
abbrev Wv := Nat × Nat × Bool × FuncId × Array Value
def encW (x : Wv) : List Value := [.int .i64 (x.1 : Int), .int .i64 (x.2.1 : Int), .bool x.2.2.1, .func (.func x.2.2.2.1) #[] x.2.2.2.2]
theorem encW_len (x : Wv) : (encW x).length = 4 := rfl
/-- the cells hold these elements from place o on -/
def CellsW (cur : List Value) (o : Nat) (L : List Wv) : Prop := ∀ t x, L[t]? = some x → ∀ c u, (encW x)[c]? = some u → cur[(o + t) * 4 + c]? = some u
theorem flat_len (L : List Wv) : ((L.map encW).flatten).length = L.length * 4 := by
  induction L with
  | nil => rfl
  | cons y r ih => rw [List.map_cons, List.flatten_cons, List.length_append, ih, encW_len, List.length_cons]; omega
theorem take_of_cells : ∀ (L : List Wv) (cur : List Value), CellsW cur 0 L → cur.take (L.length * 4) = (L.map encW).flatten
  | [], cur, _ => by simp
  | y :: r, cur, h => by
    have h0 := h 0 y rfl 0 _ rfl
    have h1 := h 0 y rfl 1 _ rfl
    have h2 := h 0 y rfl 2 _ rfl
    have h3 := h 0 y rfl 3 _ rfl
    match cur, h0, h1, h2, h3 with
    | [], h0, _, _, _ => simp at h0
    | [a], _, h1, _, _ => simp at h1
    | [a, b], _, _, h2, _ => simp at h2
    | [a, b, c], _, _, _, h3 => simp at h3
    | a :: b :: c :: d :: cur', h0, h1, h2, h3 =>
      simp at h0 h1 h2 h3
      subst h0; subst h1; subst h2; subst h3
      have ih := take_of_cells r cur' (fun t x hx c u hu => by
        have := h (t + 1) x (by simpa using hx) c u hu
        rw [show (0 + (t + 1)) * 4 + c = ((0 + t) * 4 + c) + 4 from by omega] at this
        simpa using this)
      have e : (y :: r).length * 4 = (((r.length * 4 + 1) + 1) + 1) + 1 := by simp; omega
      rw [e]
      simp only [List.take_succ_cons, ih, List.map_cons, List.flatten_cons]
      rfl
theorem cells_of_flat : ∀ (L : List Wv) (cur : List Value), cur.take (L.length * 4) = (L.map encW).flatten → CellsW cur 0 L
  | [], cur, _ => fun t x hx => by simp at hx
  | y :: r, cur, h => by
    intro t x hx c u hu
    have e : (y :: r).length * 4 = r.length * 4 + 4 := by simp; omega
    have hc : ∀ k, k < (y :: r).length * 4 → cur[k]? = ((y :: r).map encW).flatten[k]? := fun k hk => by rw [← h, List.getElem?_take_of_lt hk]
    have hcl : c < 4 := by have := (List.getElem?_eq_some_iff.1 hu).1; simpa [encW] using this
    have htl : t < (y :: r).length := (List.getElem?_eq_some_iff.1 hx).1
    have e0 : (0 + t) * 4 + c < (y :: r).length * 4 := by omega
    rw [hc _ e0, List.map_cons, List.flatten_cons]
    cases t with
    | zero =>
      simp at hx
      subst hx
      rw [show (0 + 0) * 4 + c = c from by omega, List.getElem?_append_left (by rw [encW_len]; exact hcl)]
      exact hu
    | succ t =>
      rw [List.getElem?_append_right (by rw [encW_len]; omega), encW_len]
      have ih := cells_of_flat r ((r.map encW).flatten) (List.take_of_length_le (by rw [flat_len]; omega)) t x (by simpa using hx) c u hu
      rw [show (0 + (t + 1)) * 4 + c - 4 = (0 + t) * 4 + c from by omega]
      exact ih

theorem enters_del : enters 49 := fun args w => by go_simp
/-- is it a write of the file n? -/
theorem delPred {n : Nat} {bx : Nat} {W : World} (hbx : W.cell? ⟨bx, 0, none⟩ = some (.int .i64 (n : Int))) (x : Wv) :
    Calls Try.prog 49 (#[.agg (encW x).toArray] ++ #[.pointer (some ⟨bx, 0, none⟩)]) W fun e w' => e = .returned (.bool (x.1 == n)) ∧ Below W.heap.size W w' := by
  obtain ⟨f, sz, cut, F, cs⟩ := x
  obtain ⟨v, hv⟩ : ∃ v, v = Value.func (.func F) #[] cs := ⟨_, rfl⟩
  obtain ⟨o, ho⟩ : ∃ o, o = Obj.cells #[.int .i64 (f : Int), .int .i64 (sz : Int), .bool cut, v] 83 := ⟨_, rfl⟩
  have hb1 := below_alloc W o
  have d0 : (W.alloc o).cell? ⟨W.heap.size, 0, none⟩ = some (.int .i64 (f : Int)) := by subst ho; exact cell_new W _ _ 0 _ rfl
  have d1 := (hb1.cell (p := ⟨bx, 0, none⟩) (cell_lt hbx)).trans hbx
  have hr : ((f : Int) == (n : Int)) = (f == n) := by
    rw [Bool.eq_iff_iff]; simp; omega
  subst ho
  subst hv
  show Calls _ _ #[.agg #[.int .i64 (f : Int), .int .i64 (sz : Int), .bool cut, .func (.func F) #[] cs], .pointer (some ⟨bx, 0, none⟩)] _ _
  show Calls _ _ _ _ fun e w' => e = .returned (.bool (f == n)) ∧ _
  rw [← hr]
  clear hr
  go_enter Try.func49, Try.ntmps49
  go_wp2
  go_ret
  exact ⟨rfl, hb1⟩

theorem idx_cases (p : Wv → Bool) (zs : List Wv) : (Lib.idxBy (fun _ y => p y) zs default = -1 ∧ ∀ x ∈ zs, p x = false) ∨ ∃ k : Nat, Lib.idxBy (fun _ y => p y) zs default = (k : Int) ∧ k < zs.length ∧ (zs.take k).filter (fun x => !p x) = zs.take k ∧ (∀ x, zs[k]? = some x → p x = true) := by
  have key : ∀ (zs : List Wv) (o : Nat), (Lib.idxByFrom (fun _ y => p y) default zs o = -1 ∧ ∀ x ∈ zs, p x = false) ∨ ∃ k : Nat, Lib.idxByFrom (fun _ y => p y) default zs o = ((o + k : Nat) : Int) ∧ k < zs.length ∧ (zs.take k).filter (fun x => !p x) = zs.take k ∧ (∀ x, zs[k]? = some x → p x = true) := by
    intro zs
    induction zs with
    | nil => intro o; exact .inl ⟨rfl, fun x hx => by cases hx⟩
    | cons y r ih =>
      intro o
      unfold Lib.idxByFrom
      cases hy : p y with
      | true => exact .inr ⟨0, by simp, by simp, by simp, fun x hx => by simp at hx; rw [← hx]; exact hy⟩
      | false =>
        simp only [Bool.false_eq_true, if_false]
        rcases ih (o + 1) with ⟨h1, h2⟩ | ⟨k, h1, h2, h3, h4⟩
        · exact .inl ⟨h1, fun x hx => by rcases List.mem_cons.1 hx with rfl | hx; exact hy; exact h2 x hx⟩
        · refine .inr ⟨k + 1, by rw [h1]; congr 1; omega, by simp; omega, ?_, fun x hx => h4 x (by simpa using hx)⟩
          rw [List.take_succ_cons, List.filter_cons, hy, h3]; rfl
  have := key zs 0
  rw [Lib.idxBy]
  rcases this with h | ⟨k, h1, h2⟩
  · exact .inl h
  · exact .inr ⟨k, by rw [h1]; congr 1; omega, h2⟩

theorem indexW_any {g c f bx : Nat} {zs : List Wv} {cur : List Value} {t : TypeId} {w : World} (hg : w.heap[g]? = some (.cells cur.toArray t (0, 0))) (hc : CellsW cur 0 zs) (hn : zs.length ≤ 9223372036854775807) (hbx : w.cell? ⟨bx, 0, none⟩ = some (.int .i64 (f : Int))) :
    Calls Try.prog 62 #[.slice (some ⟨g, 0, none⟩) zs.length c, .func (.func 49) #[] #[.pointer (some ⟨bx, 0, none⟩)]] w fun e w' => e = .returned (.int .i64 (Lib.idxBy (fun _ y => y.1 == f) zs default)) ∧ Below w.heap.size w w' := by
  have h := AnyQ.slices_IndexFunc Try.indexW 4 Try.isAgg83 Try.sizeOf83 encW encW_len (fun x : Wv => x.1 == f) 49 #[.pointer (some ⟨bx, 0, none⟩)] enters_del g 0 zs.length c zs w
    (fun W x hW => (delPred ((hW.cell (p := ⟨bx, 0, none⟩) (cell_lt hbx)).trans hbx) x).mono fun _ _ ⟨a, b⟩ => ⟨a, bthen hW b⟩) (Nat.le_refl _) hn (heap_lt hg) (fun j hj i v hi => by
      have e : zs[j]? = some zs[j]! := by rw [List.getElem!_eq_getElem?_getD]; simp [hj]
      have := hc j _ e i v hi
      simp only [Nat.zero_add] at this ⊢
      exact cell_of_heap hg (by simpa using this))
  rw [List.take_length] at h
  exact h

end Go.Proofs.Ytgckcnnnblggbaa
