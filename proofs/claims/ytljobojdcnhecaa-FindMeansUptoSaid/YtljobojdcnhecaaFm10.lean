/- Texts of this claim, one behind the other: IaW. -/
import Derived.Test.YtljobojdcnhecaaFm09
import Derived.Shelf.Spec.SlicesInsertGrow
import Derived.Deep.RegionLaw
set_option linter.unusedSimpArgs false
set_option linter.unusedVariables false
set_option maxRecDepth 100000
set_option maxHeartbeats 8000000
namespace Go.Proofs.Ytljobojdcnhecaa
/- Find: slices.Insert of one element of 33 cells. -/
open Go.RowKit Go.Maps

theorem run_slice_hiK {P : Program} (t e : TypeId) (k : Nat) (ht : P.underlying t = some (.slice e)) (he : ∀ w, (sizeOf e).run P w = Result.ok k w) (a : Option Addr) (len cap h : Nat) (hh : h ≤ cap) (w : World) :
    (Instr.slice t (.slice a len cap) none (some (.int .i64 h)) none).run P w = Result.ok (.slice a h cap) w := by
  have he' : P.elem t = e := by simp [Program.elem, ht]
  rw [run_slice_h (t := t) (ht := by rw [he']; exact ht) (kh := .i64) (h0 := by omega) (h2 := by omega), he', he]
  simp [Result.andThen, sliced]
  intro _; cases a <;> simp [Addr.add]

/-- copy of elements of k cells: all is read before anything is written -/
theorem run_copy_K {P : Program} (w : World) (dT sT ty elem : TypeId) (k : Nat) (g o dLen dCap : Nat) (a : Addr) (sLen sCap m : Nat) (cs : List Value) (cur : Array Value) (t : TypeId)
    (hu : P.underlying dT = some (.slice elem)) (hs : (P.info? elem).map (·.size) = some k) (hn : m = Nat.min sLen dLen) (hl : cs.length = m * k)
    (hsrc : ∀ j v, cs[j]? = some v → w.cell? (a.add j) = some v) (hg : w.heap[g]? = some (.cells cur t (0, 0))) (hfit : o + cs.length ≤ cur.size) (h1 : ∀ v ∈ cs, v.oneCell' = true) :
    (Builtin.copy_ #[dT, sT] ty #[.slice (some ⟨g, o, none⟩) dLen dCap, .slice (some a) sLen sCap]).run P w = .ok (goInt m) (w.setCells g o cs) := by
  have hld := run_loadCells_list (P := P) w a cs hsrc
  have hst := run_storeCells_cells (P := P) g o cs 0 w (fun j hj => by simp [World.cell?, hg]; omega) (fun j hj => frozen_of_heap hg) h1
  cases hq : P.info? elem with
  | none => simp [hq] at hs
  | some i =>
    have hi : i.size = k := by simpa [hq] using hs
    rw [hl] at hld
    simp [Builtin.copy_, run_underlying hu, Builtin.lenOf, Builtin.firstCells, sizeOf, typeInfo, hq, hi, ← hn, hld, hst]

/-! ### insert -/
theorem layK_shift {cur xs fx : List Value} {p : Nat} (hx : cur.take xs.length = xs) (hp : p ≤ xs.length) (hf : fx.length = 33) (hn : xs.length + 33 ≤ cur.length) : (lay (lay cur (p + 33) (xs.drop p)) p fx).take (xs.length + 33) = xs.take p ++ fx ++ xs.drop p := by
  have hd : (xs.drop p).length = xs.length - p := List.length_drop ..
  have hcp : cur.take p = xs.take p := by have := congrArg (List.take p) hx; rwa [List.take_take, Nat.min_eq_left hp] at this
  have hl1 : (cur.take (p + 33)).length = p + 33 := by rw [List.length_take]; omega
  have hl0 : (xs.take p).length = p := by rw [List.length_take]; omega
  rw [lay_eq (xs.drop p) cur (p + 33) (by rw [hd]; omega)]
  rw [lay_eq _ _ _ (by rw [hf, List.length_append, hl1]; omega), hf, List.drop_left' hl1, List.take_append_of_le_length (l₁ := cur.take (p + 33)) (by rw [hl1]; omega), List.take_take, Nat.min_eq_left (by omega), hcp, ← List.append_assoc, ← List.append_assoc]
  exact List.take_left' (by rw [List.length_append, List.length_append, hl0, hf, hd]; omega)
theorem layK_grow {cur xs fx : List Value} {p : Nat} (hx : cur.take p = xs.take p) (hp : p ≤ xs.length) (hf : fx.length = 33) (hn : xs.length + 33 ≤ cur.length) : (lay (lay cur p fx) (p + 33) (xs.drop p)).take (xs.length + 33) = xs.take p ++ fx ++ xs.drop p := by
  have hd : (xs.drop p).length = xs.length - p := List.length_drop ..
  have hl0 : (xs.take p).length = p := by rw [List.length_take]; omega
  have hl1 : (xs.take p ++ fx).length = p + 33 := by rw [List.length_append, hl0, hf]
  rw [lay_eq fx cur p (by rw [hf]; omega), hx, ← List.append_assoc]
  rw [lay_eq _ _ _ (by rw [hd, List.length_append, hl1, List.length_drop, hf]; omega), List.take_left' hl1, ← List.append_assoc]
  exact List.take_left' (by rw [List.length_append, hl1, hd]; omega)
theorem Try.sizeF (w : World) : (sizeOf 62).run Try.prog w = .ok 33 w := by kernel_rfl
section
variable {w : World} {n c B : Nat} {xs fx : List Value} {k : Nat} {gv : Nat}
theorem shape_of_heap {g : Nat} {cs : Array Value} {t : TypeId} {f : Nat × Nat} (h : w.heap[g]? = some (.cells cs t f)) : w.shape? g = some (t, cs.size) := by unfold World.shape?; rw [h]
theorem row_at {g : Nat} {cs : List Value} {t : TypeId} {f : Nat × Nat} (h : w.heap[g]? = some (.cells cs.toArray t f)) : ∀ (j : Nat) v, cs[j]? = some v → w.cell? ((⟨g, 0, none⟩ : Addr).add j) = some v := fun j v hv => by rw [addr_add]; exact cell_of_heap h (by rw [List.getElem?_toArray]; exact hv)
theorem insertF_end {a : Option Addr} (hB : B ≤ w.heap.size) (h : w.ownsRow B 62 33 (.slice a n c) n xs) (hn : n ≤ 4194304) (hf : fx.length = 33) (hf1 : ∀ u ∈ fx, u.oneCell' = true) (hgv : w.heap[gv]? = some (.cells fx.toArray 62 (0, 0))) :
    Calls Try.prog 26 #[.slice a n c, .int .i64 (n : Int), .slice (some ⟨gv, 0, none⟩) 1 1] w fun e w' => ∃ a' c', e = .returned (.slice a' (n + 1) c') ∧ w'.ownsRow B 62 33 (.slice a' (n + 1) c') (n + 1) (xs ++ fx) ∧ Chg (fun b => (Value.slice a n c).ownBlock = some b) w w' := by
  have hmax : maxLen = 9223372036854775807 := rfl
  obtain ⟨i0, hi, hz0, hz1, hz2⟩ := info_parts Try.info62f
  have hsl := run_slice_loKA (P := Try.prog) 55 62 33 Try.underlying55 Try.sizeF a n c n (Nat.le_refl _)
  have i1 : ((n : Int) == (n : Int)) = true := by simp
  have hone := row_at hgv
  have HF := Lib.hid hf
  clear hgv hf
  go_enter Try.func26, Try.ntmps26
  go_wp2_with (at_builtin; refine wpList_append_own_at _ rfl (.tmp 23) (.tmp 24) 55 rfl B 62 i0 _ 33 40 Try.underlying55 hi hz0 hz1 hz2 (by kernel_rfl) (by decide) _ n _ rfl h ⟨gv, 0, none⟩ 1 1 fx rfl HF.out hone hf1 (by omega) (by omega) hB ?_; intro v3 w3 r3 g3 _ at3; obtain ⟨a3, c3, rfl⟩ := row_slice r3)
  go_ret
  exact ⟨_, _, rfl, r3, Chg.of_grown g3 (fun k hk _ => hk)⟩
theorem overlapsF (W : World) {g : Nat} {cs cv : Array Value} {o lb cb : Nat} (hg : W.heap[g]? = some (.cells cs 62 (0, 0))) (hc : cs.size ≠ 0) (hgv : W.heap[gv]? = some (.cells cv 62 (0, 0))) (hne : gv ≠ g) :
    (callFunc 38 #[.slice (some ⟨gv, 0, none⟩) 1 1, .slice (some ⟨g, o, none⟩) lb cb]).run Try.prog W = .ok (.value (.bool false)) W := by
  rw [run_callFunc_extern Try.func38 (by kernel_rfl) (by kernel_rfl) (by kernel_rfl) (e := Extern.SlicesOverlaps.overlaps #[55, 55] #[4]) (by kernel_rfl),
    Lib.run_overlaps_apart W 55 4 62 Try.underlying55 33 Try.sizeF ⟨gv, 0, none⟩ ⟨g, o, none⟩ 1 1 lb cb hne 62 62 cv.size cs.size (shape_of_heap hgv) (shape_of_heap hg) hc (frozen_of_heap hgv) (frozen_of_heap hgv)]
  rfl
theorem copyF (W : World) (ty : TypeId) {g o dl dc : Nat} {ad : Addr} {sl sc m : Nat} {cs : List Value} {cur : Array Value} (hn : m = Nat.min sl dl) (hl : cs.length = m * 33) (hsrc : ∀ (j : Nat) v, cs[j]? = some v → W.cell? (ad.add j) = some v) (hg : W.heap[g]? = some (.cells cur 62 (0, 0))) (hfit : o + cs.length ≤ cur.size) (h1 : ∀ v ∈ cs, v.oneCell' = true) :
    (Builtin.copy_ #[55, 55] ty #[.slice (some ⟨g, o, none⟩) dl dc, .slice (some ad) sl sc]).run Try.prog W = .ok (goInt m) (W.setCells g o cs) := by
  obtain ⟨i0, hi, hz0, hz1, hz2⟩ := info_parts Try.info62f
  exact run_copy_K W _ _ ty 62 33 g o dl dc ad sl sc m cs cur _ Try.underlying55 (by rw [hi]; simp [hz1]) hn hl hsrc hg hfit h1
theorem insertF_shift {g : Nat} {cur : Array Value} (hBg : B ≤ g) (hg : w.heap[g]? = some (.cells cur 62 (0, 0))) (hsz : cur.size = c * 33) (hx : cur.toList.take (n * 33) = xs) (hxl : xs.length = n * 33) (h1 : ∀ v ∈ xs, v.oneCell' = true) (hk : k < n) (hroom : n + 1 ≤ c) (hc63 : c ≤ 9223372036854775807) (hn : n ≤ 4194304)
    (hf : fx.length = 33) (hf1 : ∀ u ∈ fx, u.oneCell' = true) (hgv : w.heap[gv]? = some (.cells fx.toArray 62 (0, 0))) (hne : gv ≠ g) :
    Calls Try.prog 26 #[.slice (some ⟨g, 0, none⟩) n c, .int .i64 (k : Int), .slice (some ⟨gv, 0, none⟩) 1 1] w fun e w' => ∃ a' c', e = .returned (.slice a' (n + 1) c') ∧ w'.ownsRow B 62 33 (.slice a' (n + 1) c') (n + 1) (xs.take (k * 33) ++ fx ++ xs.drop (k * 33)) ∧ Chg (fun b => (Value.slice (some ⟨g, 0, none⟩) n c).ownBlock = some b) w w' := by
  have hmax : maxLen = 9223372036854775807 := rfl
  obtain ⟨p, hp⟩ : ∃ p, k * 33 = p := ⟨_, rfl⟩
  have hdl : (xs.drop p).length = (n - k) * 33 := by rw [List.length_drop, hxl]; omega
  have hcell : ∀ (j : Nat) v, (xs.drop p)[j]? = some v → w.cell? ⟨g, p + j, none⟩ = some v := fun j v hv => by
    rw [List.getElem?_drop, ← hx, List.getElem?_take] at hv
    split at hv
    · exact cell_of_heap hg (by simpa using hv)
    · cases hv
  have hcp1 : ∀ ty, (Builtin.copy_ #[55, 55] ty #[.slice (some ⟨g, p + 33, none⟩) (n - k) (c - (k + 1)), .slice (some ⟨g, p, none⟩) (n + 1 - k) (c - k)]).run Try.prog w.drew = .ok (goInt (n - k : Nat)) (w.drew.setCells g (p + 33) (xs.drop p)) := fun ty =>
    copyF w.drew ty (by simp only [Nat.min_def]; split <;> omega) hdl (fun j v hv => by rw [Addr.add_mid]; exact hcell j v hv) hg (by rw [hdl]; omega) (fun v hv => h1 v (List.mem_of_mem_drop hv))
  obtain ⟨W1, hW1⟩ : ∃ z, w.drew.setCells g (p + 33) (xs.drop p) = z := ⟨_, rfl⟩
  obtain ⟨q1, q2⟩ := setCells_heap (xs.drop p) (w := w.drew) (g := g) (o := p + 33) hg
  rw [hW1] at hcp1 q1 q2
  replace q2 : Chg (· = g) w W1 := ((Chg.refl (· = g) w).drew).trans q2 (fun _ h _ => h)
  have hgv1 := q2.obj hgv hne
  have hcp2 : ∀ ty, (Builtin.copy_ #[55, 55] ty #[.slice (some ⟨g, p, none⟩) (n + 1 - k) (c - k), .slice (some ⟨gv, 0, none⟩) 1 1]).run Try.prog W1 = .ok (goInt 1) (W1.setCells g p fx) := fun ty =>
    copyF W1 ty (m := 1) (by simp only [Nat.min_def]; split <;> omega) (by rw [hf]) (row_at hgv1) q1 (by rw [hf]; simp [lay_len]; omega) hf1
  obtain ⟨W2, hW2⟩ : ∃ z, W1.setCells g p fx = z := ⟨_, rfl⟩
  obtain ⟨q3, q4⟩ := setCells_heap fx (w := W1) (g := g) (o := p) q1
  rw [hW2] at hcp2 q3 q4
  have hrow : W2.ownsRow B 62 33 (.slice (some ⟨g, 0, none⟩) (n + 1) c) (n + 1) (xs.take p ++ fx ++ xs.drop p) := by
    refine ⟨by rw [List.length_append, List.length_append, List.length_take, List.length_drop, hf, hxl]; omega, .inr ⟨g, c, _, rfl, hBg, q3, hroom, hc63, by rw [List.size_toArray, lay_len, List.toList_toArray, lay_len, Array.length_toList]; omega, ?_⟩⟩
    rw [List.toList_toArray, List.toList_toArray, show (n + 1) * 33 = xs.length + 33 from by omega]
    exact layK_shift (by rw [hxl]; exact hx) (by omega) hf (by have := Array.length_toList (xs := cur); omega)
  have hgr : Chg (fun b => (Value.slice (some ⟨g, 0, none⟩) n c).ownBlock = some b) w W2 := (q2.trans q4 (fun _ h _ => h)).mono (fun b h _ => by subst h; rfl)
  have hov := overlapsF (gv := gv) (o := p + 33) (lb := n - k) (cb := c - (k + 1)) w hg (by omega) hgv hne
  have HQ := Lib.hid (And.intro hrow hgr)
  have hsl0 := run_slice_loKA (P := Try.prog) 55 62 33 Try.underlying55 Try.sizeF (some ⟨g, 0, none⟩) n c k (by omega)
  have hsl1 : ∀ W, (Instr.slice 55 (.slice (some ⟨g, 0, none⟩) n c) none (some (.int .i64 ((n : Int) + 1))) none).run Try.prog W = Result.ok (.slice (some ⟨g, 0, none⟩) (n + 1) c) W := fun W => by
    have := run_slice_hiK (P := Try.prog) 55 62 33 Try.underlying55 Try.sizeF (some ⟨g, 0, none⟩) n c (n + 1) hroom W
    rw [show ((n + 1 : Nat) : Int) = (n : Int) + 1 from by omega] at this
    exact this
  have hsub1 : subAtK (some ⟨g, 0, none⟩) c (k + 1) 33 = some ⟨g, p + 33, none⟩ := by unfold subAtK; rw [if_neg (by omega), Option.map_some, addr_add]; congr 2; omega
  have hsub0 : subAtK (some ⟨g, 0, none⟩) c k 33 = some ⟨g, p, none⟩ := by unfold subAtK; rw [if_neg (by omega), Option.map_some, addr_add, hp]
  have hsl2 : ∀ W, (Instr.slice 55 (.slice (some ⟨g, 0, none⟩) (n + 1) c) (some (.int .i64 ((k : Int) + 1))) none none).run Try.prog W = Result.ok (.slice (some ⟨g, p + 33, none⟩) (n - k) (c - (k + 1))) W := fun W => by
    have := run_slice_loKA (P := Try.prog) 55 62 33 Try.underlying55 Try.sizeF (some ⟨g, 0, none⟩) (n + 1) c (k + 1) (by omega) W
    rw [hsub1, show ((k + 1 : Nat) : Int) = (k : Int) + 1 from by omega, show n + 1 - (k + 1) = n - k from by omega] at this
    exact this
  have hsl3 : ∀ W, (Instr.slice 55 (.slice (some ⟨g, 0, none⟩) (n + 1) c) (some (.int .i64 (k : Int))) none none).run Try.prog W = Result.ok (.slice (some ⟨g, p, none⟩) (n + 1 - k) (c - k)) W := fun W => by
    have := run_slice_loKA (P := Try.prog) 55 62 33 Try.underlying55 Try.sizeF (some ⟨g, 0, none⟩) (n + 1) c k (by omega) W
    rw [hsub0] at this
    exact this
  have e1 : IntKind.i64.wrap ((n : Int) + 1) = (n : Int) + 1 := Go.IntWalk.i64_in _ (by omega)
  have e2 : IntKind.i64.wrap ((k : Int) + 1) = (k : Int) + 1 := Go.IntWalk.i64_in _ (by omega)
  have t1 : ((k : Int) == (n : Int)) = false := by simp; omega
  have t2 : decide ((c : Int) < (n : Int) + 1) = false := by simp; omega
  rw [hp]
  clear hrow hgr q1 q2 q3 q4 hgv hgv1 hg hcell hx hxl hdl hsub0 hsub1 h1 hsz hp hf hf1 hW1 hW2
  go_enter Try.func26, Try.ntmps26
  go_wp2_with (simp only [hov])
  go_region_law (refine step_copy_runI rfl (.tmp 73) (.tmp 76) 55 55 rfl _ _ (by simp [Act.eval, Act.put]) (by simp [Act.eval, Act.put]) (hcp1 _) ?_)
  go_wp2_with (at_builtin; refine wpList_copy_runI _ rfl (.tmp 80) (.tmp 81) 55 55 rfl _ _ rfl rfl (hcp2 _) ?_)
  go_ret
  exact ⟨_, _, rfl, HQ.out.1, HQ.out.2⟩
theorem insertF_grow {g : Nat} {cur : Array Value} (hB : B ≤ w.heap.size) (hg : w.heap[g]? = some (.cells cur 62 (0, 0))) (hsz : cur.size = n * 33) (hx : cur.toList.take (n * 33) = xs) (hxl : xs.length = n * 33) (h1 : ∀ v ∈ xs, v.oneCell' = true) (hk : k < n) (hn : n ≤ 4194304)
    (hf : fx.length = 33) (hf1 : ∀ u ∈ fx, u.oneCell' = true) (hgv : w.heap[gv]? = some (.cells fx.toArray 62 (0, 0))) :
    Calls Try.prog 26 #[.slice (some ⟨g, 0, none⟩) n n, .int .i64 (k : Int), .slice (some ⟨gv, 0, none⟩) 1 1] w fun e w' => ∃ a' c', e = .returned (.slice a' (n + 1) c') ∧ w'.ownsRow B 62 33 (.slice a' (n + 1) c') (n + 1) (xs.take (k * 33) ++ fx ++ xs.drop (k * 33)) ∧ Chg (fun b => (Value.slice (some ⟨g, 0, none⟩) n n).ownBlock = some b) w w' := by
  have hmax : maxLen = 9223372036854775807 := rfl
  obtain ⟨i0, hi, hz0, hz1, hz2⟩ := info_parts Try.info62f
  obtain ⟨p, hp⟩ : ∃ p, k * 33 = p := ⟨_, rfl⟩
  have hdl : (xs.drop p).length = (n - k) * 33 := by rw [List.length_drop, hxl]; omega
  have htl : (xs.take p).length = p := by rw [List.length_take]; omega
  have hcell : ∀ (j : Nat) v, xs[j]? = some v → w.cell? ⟨g, j, none⟩ = some v := fun j v hv => by
    rw [← hx, List.getElem?_take] at hv
    split at hv
    · exact cell_of_heap hg (by simpa using hv)
    · cases hv
  have hold : (Builtin.firstCells i0.size k (.slice (some ⟨g, 0, none⟩) k n)).run Try.prog w.drew = .ok (xs.take p).toArray w.drew := by
    rw [hz1]
    exact run_firstCells_some w.drew 33 k ⟨g, 0, none⟩ k n (xs.take p) (by rw [htl]; omega) (fun j v hj => by
      rw [addr_add]
      rw [List.getElem?_take] at hj
      split at hj
      · exact hcell j v hj
      · cases hj)
  have hik : k + (n + 1 - k) = n + 1 := by omega
  obtain ⟨G, hG⟩ : ∃ z, grownCap w (n + 1) n 62 = z := ⟨_, rfl⟩
  have hGn : n + 1 ≤ G := by rw [← hG]; exact grownCap_ge w _ _ _
  have hG63 : G ≤ 9223372036854775807 := by
    have := grownCap_le_maxLen w (n + 1) n 62 (by unfold maxLen; omega)
    rw [hG] at this
    unfold maxLen at this
    omega
  obtain ⟨z0, hz⟩ : ∃ z, i0.zero = some z := ⟨_, hz0⟩
  have hzl : z0.cells.size = 33 := by rw [hz0] at hz; cases hz; rfl
  obtain ⟨ROW, hROW⟩ : ∃ z, (xs.take p).toArray ++ Builtin.zeroCells z0.cells (n + 1 - k) ++ Builtin.zeroCells z0.cells (G - (n + 1)) = z := ⟨_, rfl⟩
  have hRs : ROW.size = G * 33 := by
    rw [← hROW]
    simp [Builtin.zeroCells, hzl, htl]
    omega
  have hRt : ROW.toList.take p = xs.take p := by
    rw [← hROW]
    simp only [Array.toList_append, List.append_assoc]
    exact List.take_left' htl
  have hrz : ∀ ty, (Builtin.append_ #[55, 3] ty #[.slice (some ⟨g, 0, none⟩) k n, .int .i64 ((n : Int) + 1 - (k : Int))]).run Try.prog w = .ok (.slice (some ⟨w.heap.size, 0, none⟩) (n + 1) G) (w.drew.alloc (.cells ROW 62)) := fun ty => by
    have h := Lib.run_append_grow_zeros w 55 3 ty 62 i0 _ .i64 .i64 Try.underlying55 Try.underlying3 hi hz (some ⟨g, 0, none⟩) k n (xs.take p) hold (n + 1 - k) (by omega) (by rw [hz1]; omega) (by omega) (by omega) (by rw [hz2]; omega) (by rw [hz2, hik]; exact growslice_fits (by omega) (by omega))
    rw [hik, hG, hROW] at h
    rw [show (n : Int) + 1 - (k : Int) = ((n + 1 - k : Nat) : Int) from by omega]
    exact h
  obtain ⟨W1, hW1⟩ : ∃ z, w.drew.alloc (.cells ROW 62) = z := ⟨_, rfl⟩
  have hx1 : W1.heap[w.heap.size]? = some (.cells ROW 62 (0, 0)) := by rw [← hW1]; exact World.alloc_heap_new w.drew _
  have hc1 : Chg (fun _ => False) w W1 := by rw [← hW1]; exact (((Chg.refl (fun _ => False) w).drew).trans (Chg.alloc _ _ _) (fun _ h _ => h))
  rw [hW1] at hrz
  have hs1 := hc1.size
  have hgl := heap_lt hg
  have hvl := heap_lt hgv
  have hg1 := hc1.obj hg (fun h => h)
  have hgv1 := hc1.obj hgv (fun h => h)
  obtain ⟨N, hN⟩ : ∃ z, w.heap.size = z := ⟨_, rfl⟩
  rw [hN] at hrz hx1
  have hcpA : ∀ ty, (Builtin.copy_ #[55, 55] ty #[.slice (some ⟨N, p, none⟩) (n + 1 - k) (G - k), .slice (some ⟨gv, 0, none⟩) 1 1]).run Try.prog W1 = .ok (goInt 1) (W1.setCells N p fx) := fun ty =>
    copyF W1 ty (m := 1) (by simp only [Nat.min_def]; split <;> omega) (by rw [hf]) (row_at hgv1) hx1 (by rw [hf]; omega) hf1
  obtain ⟨W2, hW2⟩ : ∃ z, W1.setCells N p fx = z := ⟨_, rfl⟩
  obtain ⟨q1, q2⟩ := setCells_heap fx (w := W1) (g := N) (o := p) hx1
  rw [hW2] at hcpA q1 q2
  have hg2 := q2.obj hg1 (by omega)
  have hcpB : ∀ ty, (Builtin.copy_ #[55, 55] ty #[.slice (some ⟨N, p + 33, none⟩) (n - k) (G - (k + 1)), .slice (some ⟨g, p, none⟩) (n - k) (n - k)]).run Try.prog W2.drew = .ok (goInt (n - k : Nat)) (W2.drew.setCells N (p + 33) (xs.drop p)) := fun ty =>
    copyF W2.drew ty (by simp only [Nat.min_def]; split <;> omega) hdl (fun j v hv => by
      rw [List.getElem?_drop] at hv
      rw [Addr.add_mid]
      have hv2 := hv
      rw [← hx, List.getElem?_take] at hv2
      split at hv2
      · exact cell_of_heap (w := W2) hg2 (by simpa using hv2)
      · cases hv2) q1 (by have := Array.length_toList (xs := ROW); rw [List.size_toArray, lay_len, hdl]; omega) (fun v hv => h1 v (List.mem_of_mem_drop hv))
  obtain ⟨W3, hW3⟩ : ∃ z, W2.drew.setCells N (p + 33) (xs.drop p) = z := ⟨_, rfl⟩
  obtain ⟨q3, q4⟩ := setCells_heap (xs.drop p) (w := W2.drew) (g := N) (o := p + 33) q1
  rw [hW3] at hcpB q3 q4
  have hrow : W3.ownsRow B 62 33 (.slice (some ⟨N, 0, none⟩) (n + 1) G) (n + 1) (xs.take p ++ fx ++ xs.drop p) := by
    refine ⟨by rw [List.length_append, List.length_append, htl, hdl, hf]; omega, .inr ⟨N, G, _, rfl, by omega, q3, hGn, by omega, by rw [List.size_toArray, lay_len, List.toList_toArray, lay_len, Array.length_toList]; omega, ?_⟩⟩
    rw [List.toList_toArray, List.toList_toArray, show (n + 1) * 33 = xs.length + 33 from by omega]
    exact layK_grow hRt (by omega) hf (by have := Array.length_toList (xs := ROW); omega)
  have c12 : Chg (fun b => (Value.slice (some ⟨g, 0, none⟩) n n).ownBlock = some b) w W2 := (hc1.mono (fun _ h _ => h.elim)).trans q2 (fun b h hl => by have h : b = N := h; omega)
  have c13 : Chg (fun b => (Value.slice (some ⟨g, 0, none⟩) n n).ownBlock = some b) w W3 := c12.trans (((Chg.refl (· = N) W2).drew).trans q4 (fun _ h _ => h)) (fun b h hl => by have h : b = N := h; omega)
  have HQ := Lib.hid (And.intro hrow c13)
  have hsl0 := run_slice_loKA (P := Try.prog) 55 62 33 Try.underlying55 Try.sizeF (some ⟨g, 0, none⟩) n n k (by omega)
  have hsub : subAtK (some ⟨g, 0, none⟩) n k 33 = some ⟨g, p, none⟩ := by unfold subAtK; rw [if_neg (by omega), Option.map_some, addr_add, hp]
  rw [hsub] at hsl0
  have hsl1 := run_slice_hiK (P := Try.prog) 55 62 33 Try.underlying55 Try.sizeF (some ⟨g, 0, none⟩) n n k (by omega)
  have hsubN : subAtK (some ⟨N, 0, none⟩) G k 33 = some ⟨N, p, none⟩ := by unfold subAtK; rw [if_neg (by omega), Option.map_some, addr_add, hp]
  have hsubM : subAtK (some ⟨N, 0, none⟩) G (k + 1) 33 = some ⟨N, p + 33, none⟩ := by unfold subAtK; rw [if_neg (by omega), Option.map_some, addr_add]; congr 2; omega
  have hsl2 := run_slice_loKA (P := Try.prog) 55 62 33 Try.underlying55 Try.sizeF (some ⟨N, 0, none⟩) (n + 1) G k (by omega)
  rw [hsubN] at hsl2
  have hsl3 : ∀ W, (Instr.slice 55 (.slice (some ⟨N, 0, none⟩) (n + 1) G) (some (.int .i64 ((k : Int) + 1))) none none).run Try.prog W = Result.ok (.slice (some ⟨N, p + 33, none⟩) (n - k) (G - (k + 1))) W := fun W => by
    have := run_slice_loKA (P := Try.prog) 55 62 33 Try.underlying55 Try.sizeF (some ⟨N, 0, none⟩) (n + 1) G (k + 1) (by omega) W
    rw [hsubM, show ((k + 1 : Nat) : Int) = (k : Int) + 1 from by omega, show n + 1 - (k + 1) = n - k from by omega] at this
    exact this
  have e1 : IntKind.i64.wrap ((n : Int) + 1) = (n : Int) + 1 := Go.IntWalk.i64_in _ (by omega)
  have e2 : IntKind.i64.wrap ((k : Int) + 1) = (k : Int) + 1 := Go.IntWalk.i64_in _ (by omega)
  have e3 : IntKind.i64.wrap ((n : Int) + 1 - (k : Int)) = (n : Int) + 1 - (k : Int) := Go.IntWalk.i64_in _ (by omega)
  have t1 : ((k : Int) == (n : Int)) = false := by simp; omega
  have t2 : decide ((n : Int) < (n : Int) + 1) = true := by simp; omega
  rw [hp]
  clear hrow c12 c13 q1 q2 q3 q4 hgv hgv1 hg hg1 hg2 hcell hx hxl hdl htl hsub hsubN hsubM h1 hsz hold hik hG hROW hRs hRt hx1 hc1 hN hW1 hW2 hW3 hi hz hz0 hz1 hz2 hs1 hp hf hf1 hzl
  go_enter Try.func26, Try.ntmps26
  go_wp2_with (first
    | (at_builtin; refine Lib.wpList_append_run _ rfl (.tmp 34) (.tmp 39) 55 3 rfl _ _ rfl rfl _ _ (hrz _) ?_)
    | (at_builtin; refine wpList_copy_runI _ rfl (.tmp 43) (.tmp 44) 55 55 rfl _ _ rfl rfl (hcpA _) ?_))
  go_region_law (refine step_copy_runI rfl (.tmp 50) (.tmp 53) 55 55 rfl _ _ (by simp [Act.eval, Act.put]) (by simp [Act.eval, Act.put]) (hcpB _) ?_)
  go_wp2
  go_ret
  exact ⟨_, _, rfl, HQ.out.1, HQ.out.2⟩
theorem insertF_any {a : Option Addr} (hB : B ≤ w.heap.size) (h : w.ownsRow B 62 33 (.slice a n c) n xs) (h1 : ∀ v ∈ xs, v.oneCell' = true) (hk : k ≤ n) (hn : n ≤ 4194304) (hf : fx.length = 33) (hf1 : ∀ u ∈ fx, u.oneCell' = true) (hgv : w.heap[gv]? = some (.cells fx.toArray 62 (0, 0))) (hne : ∀ b, (Value.slice a n c).ownBlock = some b → gv ≠ b) :
    Calls Try.prog 26 #[.slice a n c, .int .i64 (k : Int), .slice (some ⟨gv, 0, none⟩) 1 1] w fun e w' => ∃ a' c', e = .returned (.slice a' (n + 1) c') ∧ w'.ownsRow B 62 33 (.slice a' (n + 1) c') (n + 1) (xs.take (k * 33) ++ fx ++ xs.drop (k * 33)) ∧ Chg (fun b => (Value.slice a n c).ownBlock = some b) w w' := by
  have hxl := h.1
  by_cases hkn : k = n
  · subst hkn
    have := insertF_end hB h hn hf hf1 hgv
    rw [List.take_of_length_le (by omega), List.drop_of_length_le (by omega), List.append_nil]
    exact this
  · rcases h.2 with ⟨_, e⟩ | ⟨g, cap, cur, e, hBg, hg, k1, k2, k3, k4⟩
    · omega
    · cases e
      by_cases hr : n + 1 ≤ c
      · exact insertF_shift hBg hg k3 k4 hxl h1 (by omega) hr k2 hn hf hf1 hgv (hne g rfl)
      · obtain rfl : c = n := by omega
        exact insertF_grow hB hg k3 k4 hxl h1 (by omega) hn hf hf1 hgv
end

end Go.Proofs.Ytljobojdcnhecaa
