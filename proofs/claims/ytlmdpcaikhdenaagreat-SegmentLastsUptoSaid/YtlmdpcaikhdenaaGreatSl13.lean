/- Texts of this claim, one behind the other: DkI, DkJ, DkK. -/
import Derived.Test.YtlmdpcaikhdenaaGreatSl12
import Derived.Test.YtlmdpcaikhdenaaGreatShelf
import Derived.Deep.WholeRow
import Derived.Deep.MidRow
set_option linter.unusedSimpArgs false
set_option linter.unusedVariables false
/- Disk: SyncNames. -/
namespace Go.Proofs.YtlmdpcaikhdenaaGreat
open Go.RowKit Go.Maps Go.Shelf

theorem cloneN_any {n b : Nat} {D : DataW Unit} {w : World} (h : w.ownsMap Tryz.prog 9 (plainElem Tryz.prog 3) b n D) :
    Calls Tryz.prog 50 #[.map (some b)] w fun e w' => e = .returned (.map (some w.heap.size)) ∧ w'.ownsMap Tryz.prog 9 (plainElem Tryz.prog 3) w.heap.size n D ∧ Below w.heap.size w w' :=
  (AnyW.maps_Clone_owns Tryz.cloneN 9 (plainElem Tryz.prog 3) b n D w h).mono fun _ _ ⟨h1, h2, _, h4⟩ => ⟨h1, h2, h4⟩

theorem apart_vs_none {p mf mn : Nat} {vs vs' vw : Value} {fb : List Nat} (h : (ownL p mf mn vs vw fb).Nodup) (hv : vs'.ownBlock = none) : (ownL p mf mn vs' vw fb).Nodup := by
  unfold ownL at h ⊢
  rw [hv]
  simp only [List.nodup_cons, List.mem_cons, List.mem_append, Option.mem_toList, Option.toList_none, List.nodup_append, List.not_mem_nil, List.nodup_nil] at h ⊢
  grind
section
variable {w : World} {p : Nat} {s : DSt} {R : Nat → Prop} {mf mn ms : Nat} {fb : List Nat} {vs vw : Value} {ss : List Value} {ws : List (List Value)} {e : TypeId}
/-- the names that stand last, and no step is pending -/
theorem DiskP.setSure (h : DiskP w p s R mf mn ms fb vs vw ss ws e) {w2 : World} (hb : Below w.heap.size w w2) {m : Nat} {L : NL} (hm : w2.ownsMap Tryz.prog 9 (plainElem Tryz.prog 3) m L.length (nameD L)) (hm0 : w.heap.size ≤ m) :
    Turns w ((w2.setCell ⟨p, 3, none⟩ (.map (some m))).setCell ⟨p, 4, none⟩ (.slice none 0 0)) p { s with sure := L, steps := [] } (ownL p mf mn vs vw fb) R := by
  obtain ⟨n1, n2, n3, n4, n5⟩ := h.ne_p
  have hplt := heap_lt h.cells
  have hcell2 := (hb.block p hplt).trans h.cells
  have hc0 : Chg (· = p) w w2 := Chg.of_below hb
  have hc3 : Chg (· = p) w2 (w2.setCell ⟨p, 3, none⟩ (.map (some m))) := Chg.set _ rfl
  have hc4 : Chg (· = p) (w2.setCell ⟨p, 3, none⟩ (.map (some m))) ((w2.setCell ⟨p, 3, none⟩ (.map (some m))).setCell ⟨p, 4, none⟩ (.slice none 0 0)) := Chg.set _ rfl
  have hcell4 := heap_set_cells (i := 4) (.slice none 0 0) (heap_set_cells (i := 3) (.map (some m)) hcell2)
  have hm4 := (hc3.trans hc4 (fun _ h _ => h)).map hm (by omega)
  have hcc := (hc0.trans hc3 (fun _ h _ => h)).trans hc4 (fun _ h _ => h)
  have hmlt := hm4.lt
  clear hc3 hc4
  generalize (w2.setCell ⟨p, 3, none⟩ (.map (some m))).setCell ⟨p, 4, none⟩ (.slice none 0 0) = w3 at *
  have hs3 := hcc.size
  have hRO : ∀ b, R b → ¬ b = p := fun b hb => h.notR mem_own_p b hb
  have hOwn : ∀ b ∈ ownL p mf mn (.slice none 0 0) vw fb, b ∈ ownL p mf mn vs vw fb ∨ w.heap.size ≤ b := by
    intro b hb
    rcases mem_own_new (vs := vs) hb with h1 | h1
    · cases h1
    · exact .inl h1
  have hsub : ∀ b ∈ ownL p mf mn (.slice none 0 0) vw fb, b ∈ ownL p mf mn vs vw fb := by
    intro b hb
    rcases mem_own_new (vs := vs) hb with h1 | h1
    · cases h1
    · exact h1
  have hR' := rnew_ok (w' := w3) h.hR hs3 hOwn
  have hR'' : ∀ b, R b → RNew R w w3 (ownL p mf mn (.slice none 0 0) vw fb) b := fun b hb => .inl hb
  refine .of_parts (mf := mf) (mn := mn) (ms := m) (fb := fb) (vs := .slice none 0 0) (vw := vw) (ss := []) (ws := ws) (e := e) ?_ (hcc.mono (fun x hx _ => by subst hx; exact mem_own_p)) hOwn
  exact {
    cells := by simpa using hcell4
    filesM := hcc.map h.filesM (Ne.symm n1)
    namesM := hcc.map h.namesM (Ne.symm n2)
    sureM := hm4
    count := h.count
    file := fun i b d hb hd => (h.file i b d hb hd).kept hcc hRO hR'' (fun e => n5 (e ▸ List.mem_of_getElem? hb))
    stepsR := World.ownsRow_nil _ _ _ _
    step := fun i v x hv hx => by simp at hv
    writesR := hcc.row h.writesR n4
    count4 := h.count4
    write := fun i c x hc hx => (h.write i c x hc hx).kept hcc hRO hR''
    apart := apart_vs_none h.apart rfl
    own := fun b hb => ⟨by have := h.lt (hsub b hb); omega, fun hr => (hR' b hr).2 hb⟩
    shared := fun b hb => (hR' b hb).1
    sureR := .inr ⟨hm0, hmlt, fun hm => by have := h.lt (hsub _ hm); omega⟩ }
end

set_option maxRecDepth 100000 in
set_option maxHeartbeats 4000000 in
theorem SyncNames_any {w : World} {p : Nat} {s : DSt} {R : Nat → Prop} {mf mn ms : Nat} {fb : List Nat} {vs vw : Value} {ss : List Value} {ws : List (List Value)} {e : TypeId} (h : DiskP w p s R mf mn ms fb vs vw ss ws e) {N : Nat} (hok : s.Ok N) (hN : N + 1 < maxList) :
    Calls Tryz.prog 20 #[.pointer (some ⟨p, 0, none⟩)] w fun e w' => e = .returned (.int .i64 ((s.syncNames).2 : Int)) ∧ Turns w w' p (s.syncNames).1 (ownL p mf mn vs vw fb) R := by
  have hth := there_any h.cells (mn := mn) (by rfl)
  have c6 := cell_of_heap h.cells (i := 6) (v := .int .i64 (s.done : Int)) (by rfl)
  have z6 := frozen_of_heap (i := 6) h.cells
  have hd := hok.done
  have hmx : maxList = 4194304 := rfl
  have hn : ((s.done + 1 : Nat) : Int) = (s.done : Int) + 1 := by omega
  have hk := h.tick
  have hc1 : Chg (· ∈ ownL p mf mn vs vw fb) w (w.setCell ⟨p, 6, none⟩ (.int .i64 ((s.done + 1 : Nat) : Int))) := Chg.set _ mem_own_p
  have he : s.syncNames = ({ s.tick with sure := s.names, steps := [] }, 0) := rfl
  rw [he]
  rw [hn] at hk hc1
  clear he hn
  have HR := Lib.hid h.hR
  generalize hw1 : w.setCell ⟨p, 6, none⟩ (.int .i64 ((s.done : Int) + 1)) = w1 at *
  have c2 := cell_of_heap hk.cells (i := 2) (v := .map (some mn)) (by rfl)
  have hcl := cloneN_any hk.namesM
  have hp1 := heap_lt hk.cells
  clear h
  go_enter Tryz.func20, Tryz.ntmps20
  go_wp2_with (first | (go_at_call 49; refine hth.mono ?_; rintro e1 w2 ⟨rfl, rfl⟩) | (go_at_call 50; refine hcl.mono ?_; rintro _ w2 ⟨rfl, hm2, hb2⟩; have c2' := cell_of_heap ((hb2.block p hp1).trans hk.cells) (i := 3) (v := .map (some ms)) (by rfl); have z2' := frozen_of_heap (i := 3) ((hb2.block p hp1).trans hk.cells); have c4' := cell_of_heap ((hb2.block p hp1).trans hk.cells) (i := 4) (v := vs) (by rfl); have z4' := frozen_of_heap (i := 4) ((hb2.block p hp1).trans hk.cells)))
  go_ret
  exact ⟨rfl, Turns.after' hc1 HR.out (hk.setSure hb2 hm2 (Nat.le_refl _)) (fun y hy => .inl hy) (fun y hy => .inl hy)⟩

end Go.Proofs.YtlmdpcaikhdenaaGreat
/- Disk: the pending writes of a file go: slices.DeleteFunc at structs of four cells. -/
namespace Go.Proofs.YtlmdpcaikhdenaaGreat
open Go.RowKit Go.Maps Go.Shelf

/-- a pending write as it lies: the file, how many bytes, is it a cut, the function -/
abbrev Wv := Nat × Nat × Bool × FuncId × Array Value
def encW (x : Wv) : List Value := [.int .i64 (x.1 : Int), .int .i64 (x.2.1 : Int), .bool x.2.2.1, .func (.func x.2.2.2.1) #[] x.2.2.2.2]
theorem encW_len (x : Wv) : (encW x).length = 4 := rfl
/-- the cells hold these elements from place o on -/
def CellsW (cur : List Value) (o : Nat) (L : List Wv) : Prop := ∀ t x, L[t]? = some x → ∀ c u, (encW x)[c]? = some u → cur[(o + t) * 4 + c]? = some u
theorem flat_len (L : List Wv) : ((L.map encW).flatten).length = L.length * 4 := by
  induction L with
  | nil => rfl
  | cons y r ih => rw [List.map_cons, List.flatten_cons, List.length_append, ih, encW_len, List.length_cons]; omega
theorem take_of_cells : ∀ (L : List Wv) (cur : List Value), CellsW cur 0 L → cur.take (L.length * 4) = (L.map encW).flatten
  | [], cur, _ => by simp
  | y :: r, cur, h => by
    have h0 := h 0 y rfl 0 _ rfl
    have h1 := h 0 y rfl 1 _ rfl
    have h2 := h 0 y rfl 2 _ rfl
    have h3 := h 0 y rfl 3 _ rfl
    match cur, h0, h1, h2, h3 with
    | [], h0, _, _, _ => simp at h0
    | [a], _, h1, _, _ => simp at h1
    | [a, b], _, _, h2, _ => simp at h2
    | [a, b, c], _, _, _, h3 => simp at h3
    | a :: b :: c :: d :: cur', h0, h1, h2, h3 =>
      simp at h0 h1 h2 h3
      subst h0; subst h1; subst h2; subst h3
      have ih := take_of_cells r cur' (fun t x hx c u hu => by
        have := h (t + 1) x (by simpa using hx) c u hu
        rw [show (0 + (t + 1)) * 4 + c = ((0 + t) * 4 + c) + 4 from by omega] at this
        simpa using this)
      have e : (y :: r).length * 4 = (((r.length * 4 + 1) + 1) + 1) + 1 := by simp; omega
      rw [e]
      simp only [List.take_succ_cons, ih, List.map_cons, List.flatten_cons]
      rfl
theorem cells_of_flat : ∀ (L : List Wv) (cur : List Value), cur.take (L.length * 4) = (L.map encW).flatten → CellsW cur 0 L
  | [], cur, _ => fun t x hx => by simp at hx
  | y :: r, cur, h => by
    intro t x hx c u hu
    have e : (y :: r).length * 4 = r.length * 4 + 4 := by simp; omega
    have hc : ∀ k, k < (y :: r).length * 4 → cur[k]? = ((y :: r).map encW).flatten[k]? := fun k hk => by rw [← h, List.getElem?_take_of_lt hk]
    have hcl : c < 4 := by have := (List.getElem?_eq_some_iff.1 hu).1; simpa [encW] using this
    have htl : t < (y :: r).length := (List.getElem?_eq_some_iff.1 hx).1
    have e0 : (0 + t) * 4 + c < (y :: r).length * 4 := by omega
    rw [hc _ e0, List.map_cons, List.flatten_cons]
    cases t with
    | zero =>
      simp at hx
      subst hx
      rw [show (0 + 0) * 4 + c = c from by omega, List.getElem?_append_left (by rw [encW_len]; exact hcl)]
      exact hu
    | succ t =>
      rw [List.getElem?_append_right (by rw [encW_len]; omega), encW_len]
      have ih := cells_of_flat r ((r.map encW).flatten) (List.take_of_length_le (by rw [flat_len]; omega)) t x (by simpa using hx) c u hu
      rw [show (0 + (t + 1)) * 4 + c - 4 = (0 + t) * 4 + c from by omega]
      exact ih

theorem enters_del : enters 240 := fun args w => by go_simp
/-- is it a write of the file n? -/
theorem delPred {n : Nat} {bx : Nat} {W : World} (hbx : W.cell? ⟨bx, 0, none⟩ = some (.int .i64 (n : Int))) (x : Wv) :
    Calls Tryz.prog 240 (#[.agg (encW x).toArray] ++ #[.pointer (some ⟨bx, 0, none⟩)]) W fun e w' => e = .returned (.bool (x.1 == n)) ∧ Below W.heap.size W w' := by
  obtain ⟨f, sz, cut, F, cs⟩ := x
  obtain ⟨v, hv⟩ : ∃ v, v = Value.func (.func F) #[] cs := ⟨_, rfl⟩
  obtain ⟨o, ho⟩ : ∃ o, o = Obj.cells #[.int .i64 (f : Int), .int .i64 (sz : Int), .bool cut, v] 125 := ⟨_, rfl⟩
  have hb1 := below_alloc W o
  have d0 : (W.alloc o).cell? ⟨W.heap.size, 0, none⟩ = some (.int .i64 (f : Int)) := by subst ho; exact cell_new W _ _ 0 _ rfl
  have d1 := (hb1.cell (p := ⟨bx, 0, none⟩) (cell_lt hbx)).trans hbx
  have hr : ((f : Int) == (n : Int)) = (f == n) := by
    rw [Bool.eq_iff_iff]; simp; omega
  subst ho
  subst hv
  show Calls _ _ #[.agg #[.int .i64 (f : Int), .int .i64 (sz : Int), .bool cut, .func (.func F) #[] cs], .pointer (some ⟨bx, 0, none⟩)] _ _
  show Calls _ _ _ _ fun e w' => e = .returned (.bool (f == n)) ∧ _
  rw [← hr]
  clear hr
  go_enter Tryz.func240, Tryz.ntmps240
  go_wp2
  go_ret
  exact ⟨rfl, hb1⟩

theorem idx_cases (p : Wv → Bool) (zs : List Wv) : (Lib.idxBy (fun _ y => p y) zs default = -1 ∧ ∀ x ∈ zs, p x = false) ∨ ∃ k : Nat, Lib.idxBy (fun _ y => p y) zs default = (k : Int) ∧ k < zs.length ∧ (zs.take k).filter (fun x => !p x) = zs.take k ∧ (∀ x, zs[k]? = some x → p x = true) := by
  have key : ∀ (zs : List Wv) (o : Nat), (Lib.idxByFrom (fun _ y => p y) default zs o = -1 ∧ ∀ x ∈ zs, p x = false) ∨ ∃ k : Nat, Lib.idxByFrom (fun _ y => p y) default zs o = ((o + k : Nat) : Int) ∧ k < zs.length ∧ (zs.take k).filter (fun x => !p x) = zs.take k ∧ (∀ x, zs[k]? = some x → p x = true) := by
    intro zs
    induction zs with
    | nil => intro o; exact .inl ⟨rfl, fun x hx => by cases hx⟩
    | cons y r ih =>
      intro o
      unfold Lib.idxByFrom
      cases hy : p y with
      | true => exact .inr ⟨0, by simp, by simp, by simp, fun x hx => by simp at hx; rw [← hx]; exact hy⟩
      | false =>
        simp only [Bool.false_eq_true, if_false]
        rcases ih (o + 1) with ⟨h1, h2⟩ | ⟨k, h1, h2, h3, h4⟩
        · exact .inl ⟨h1, fun x hx => by rcases List.mem_cons.1 hx with rfl | hx; exact hy; exact h2 x hx⟩
        · refine .inr ⟨k + 1, by rw [h1]; congr 1; omega, by simp; omega, ?_, fun x hx => h4 x (by simpa using hx)⟩
          rw [List.take_succ_cons, List.filter_cons, hy, h3]; rfl
  have := key zs 0
  rw [Lib.idxBy]
  rcases this with h | ⟨k, h1, h2⟩
  · exact .inl h
  · exact .inr ⟨k, by rw [h1]; congr 1; omega, h2⟩

theorem indexW_any {g c f bx : Nat} {zs : List Wv} {cur : List Value} {t : TypeId} {w : World} (hg : w.heap[g]? = some (.cells cur.toArray t (0, 0))) (hc : CellsW cur 0 zs) (hn : zs.length ≤ 9223372036854775807) (hbx : w.cell? ⟨bx, 0, none⟩ = some (.int .i64 (f : Int))) :
    Calls Tryz.prog 244 #[.slice (some ⟨g, 0, none⟩) zs.length c, .func (.func 240) #[] #[.pointer (some ⟨bx, 0, none⟩)]] w fun e w' => e = .returned (.int .i64 (Lib.idxBy (fun _ y => y.1 == f) zs default)) ∧ Below w.heap.size w w' := by
  have h := AnyQ.slices_IndexFunc Tryz.indexW 4 Tryz.isAgg125 Tryz.sizeOf125 encW encW_len (fun x : Wv => x.1 == f) 240 #[.pointer (some ⟨bx, 0, none⟩)] enters_del g 0 zs.length c zs w
    (fun W x hW => (delPred ((hW.cell (p := ⟨bx, 0, none⟩) (cell_lt hbx)).trans hbx) x).mono fun _ _ ⟨a, b⟩ => ⟨a, bthen hW b⟩) (Nat.le_refl _) hn (heap_lt hg) (fun j hj i v hi => by
      have e : zs[j]? = some zs[j]! := by rw [List.getElem!_eq_getElem?_getD]; simp [hj]
      have := hc j _ e i v hi
      simp only [Nat.zero_add] at this ⊢
      exact cell_of_heap hg (by simpa using this))
  rw [List.take_length] at h
  exact h

end Go.Proofs.YtlmdpcaikhdenaaGreat
/- Disk: slices.DeleteFunc over the pending writes. -/
namespace Go.Proofs.YtlmdpcaikhdenaaGreat
open Go.RowKit Go.Maps Go.Shelf

theorem run_store_func {P : Program} {w : World} {a : Addr} {m : Mode} (f : Fn) (x y : Array Value) : (store a (.func f x y) m).run P w = stored P w a (.func f x y) m := run_store P w a _ m rfl
attribute [local go_sem] run_store_func

theorem stay_filter_succ {f : Nat} {zs : List Wv} {j : Nat} {x : Wv} (hx : zs[j]? = some x) : (zs.take (j + 1)).filter (fun x => !(x.1 == f)) = (zs.take j).filter (fun x => !(x.1 == f)) ++ (if x.1 == f then [] else [x]) := by
  rw [List.take_add_one, hx, List.filter_append]
  congr 1
  simp only [Option.toList_some, List.filter_cons, List.filter_nil]
  cases x.1 == f <;> rfl

theorem splice_get {α : Type} (cur vs : List α) (o k : Nat) (h : o + vs.length ≤ cur.length) : (splice cur o vs)[k]? = if o ≤ k ∧ k < o + vs.length then vs[k - o]? else cur[k]? := by
  unfold splice
  simp only [List.getElem?_append, List.getElem?_take, List.getElem?_drop, List.length_take]
  grind
theorem heap_setCells : ∀ (vs : List Value) (o : Nat) (w : World) (g : Nat) (cur : List Value) (t : TypeId), w.heap[g]? = some (.cells cur.toArray t (0, 0)) → o + vs.length ≤ cur.length → (w.setCells g o vs).heap[g]? = some (.cells (splice cur o vs).toArray t (0, 0))
  | [], o, w, g, cur, t, h, _ => by simpa [World.setCells, splice] using h
  | v :: r, o, w, g, cur, t, h, hl => by
    have h1 := heap_set_cells (i := o) v h
    have e : cur.toArray.setIfInBounds o v = (cur.set o v).toArray := by simp
    rw [e] at h1
    have := heap_setCells r (o + 1) _ g (cur.set o v) t h1 (by simp at hl ⊢; omega)
    rw [World.setCells, this]
    congr 2
    simp at hl
    unfold splice
    apply congrArg
    apply List.ext_getElem?
    intro i
    simp only [List.getElem?_append, List.getElem?_take, List.getElem?_drop, List.length_take, List.getElem?_set, List.length_set, List.length_cons, List.getElem?_cons]
    grind
theorem Chg.setCells {O : Nat → Prop} {g : Nat} (hg : O g) : ∀ (vs : List Value) (o : Nat) (w : World), Chg O w (w.setCells g o vs)
  | [], _, w => Chg.refl _ w
  | v :: r, o, w => (Chg.set (a := ⟨g, o, none⟩) v hg).trans (Chg.setCells hg r (o + 1) _) (fun _ h _ => h)

theorem there_of {w : World} {g o n : Nat} {cur : List Value} {t : TypeId} (h : w.heap[g]? = some (.cells cur.toArray t (0, 0))) (hl : o + n ≤ cur.length) : w.there g o n := fun j hj => by
  refine ⟨?_, frozen_of_heap h⟩
  rw [cell_of_heap h (v := cur[o + j]'(by omega)) (by simp)]
  rfl

theorem run_clear_write (w : World) (b o n c : Nat) (hn : 0 < n) (ht : w.there b o (n * 4)) : ∃ zl : List Value, zl.length = n * 4 ∧ ∀ ty, (Builtin.clear_ #[111] ty #[.slice (some ⟨b, o, none⟩) n c]).run Tryz.prog w = .ok (.tuple #[]) (w.setCells b o zl) := by
  have hv := Tryz.zeroValue125 w
  obtain ⟨zl, hz⟩ : ∃ zl, zl = (Builtin.zeroCells #[.int .i64 0, .int .i64 0, .bool false, .nilFunc] n).toList := ⟨_, rfl⟩
  have hl : zl.length = n * 4 := by rw [hz]; simp [Builtin.zeroCells]
  have h1 : ∀ v ∈ zl, v.oneCell' = true := by
    intro v hv
    rw [hz] at hv
    simp only [Builtin.zeroCells, Array.toList_map, List.mem_map] at hv
    obtain ⟨i, _, rfl⟩ := hv
    have : i % 4 < 4 := Nat.mod_lt _ (by decide)
    show (#[Value.int .i64 0, .int .i64 0, .bool false, .nilFunc][i % 4]!).oneCell' = true
    match i % 4, this with
    | 0, _ => rfl
    | 1, _ => rfl
    | 2, _ => rfl
    | 3, _ => rfl
  have hst := run_storeCells_cells (P := Tryz.prog) b o zl 0 w (fun j hj => by simpa using (ht j (by omega)).1) (fun j hj => by simpa using (ht j (by omega)).2) h1
  simp only [Nat.add_zero] at hst
  refine ⟨zl, hl, fun ty => ?_⟩
  obtain ⟨m, rfl⟩ : ∃ m, n = m + 1 := ⟨n - 1, by omega⟩
  simp [Builtin.clear_, run_underlying Tryz.underlying111, hv, Value.cells, ← hz, hst]
theorem run_slice_loK {P : Program} (t e : TypeId) (k : Nat) (ht : P.underlying t = some (.slice e)) (he : ∀ w, (sizeOf e).run P w = Result.ok k w) (b : Nat) (len cap l : Nat) (hl : l ≤ len) (hc : l < cap) (w : World) :
    (Instr.slice t (.slice (some ⟨b, 0, none⟩) len cap) (some (.int .i64 l)) none none).run P w = Result.ok (.slice (some ⟨b, l * k, none⟩) (len - l) (cap - l)) w := by
  have he' : P.elem t = e := by simp [Program.elem, ht]
  have hne : ¬ cap = l := by omega
  have ha : (⟨b, 0, none⟩ : Addr).add (l * k) = ⟨b, l * k, none⟩ := by unfold Addr.add; split <;> simp_all
  rw [run_slice_l (t := t) (ht := by rw [he']; exact ht) (kl := .i64) (h0 := by omega) (h1 := by omega), he', he]
  simp [Result.andThen, sliced, hne, ha]
theorem run_slice_hiK {P : Program} (t e : TypeId) (k : Nat) (ht : P.underlying t = some (.slice e)) (he : ∀ w, (sizeOf e).run P w = Result.ok k w) (a : Option Addr) (len cap h : Nat) (hh : h ≤ cap) (w : World) :
    (Instr.slice t (.slice a len cap) none (some (.int .i64 h)) none).run P w = Result.ok (.slice a h cap) w := by
  have he' : P.elem t = e := by simp [Program.elem, ht]
  rw [run_slice_h (t := t) (ht := by rw [he']; exact ht) (kh := .i64) (h0 := by omega) (h2 := by omega), he', he]
  simp [Result.andThen, sliced]
  intro _; cases a <;> simp [Addr.add]

set_option maxRecDepth 100000 in
set_option maxHeartbeats 4000000 in
theorem deleteW_any {g cap f bx : Nat} {zs : List Wv} {cur : List Value} {w : World} (hg : w.heap[g]? = some (.cells cur.toArray 125 (0, 0))) (hcl : cur.length = cap * 4) (hzc : zs.length ≤ cap) (hc : CellsW cur 0 zs) (hn : zs.length ≤ 1000000000) (hbx : w.cell? ⟨bx, 0, none⟩ = some (.int .i64 (f : Int))) (hne : bx ≠ g) :
    Calls Tryz.prog 239 #[.slice (some ⟨g, 0, none⟩) zs.length cap, .func (.func 240) #[] #[.pointer (some ⟨bx, 0, none⟩)]] w fun e w' =>
      ∃ cur' : List Value, e = .returned (.slice (some ⟨g, 0, none⟩) (zs.filter (fun x => !(x.1 == f))).length cap) ∧ w'.heap[g]? = some (.cells cur'.toArray 125 (0, 0)) ∧ cur'.length = cap * 4 ∧ CellsW cur' 0 (zs.filter (fun x => !(x.1 == f))) ∧ Chg (· = g) w w' := by
  have hI := indexW_any (c := cap) hg hc (by omega) hbx
  rcases idx_cases (fun y => y.1 == f) zs with ⟨h1, h2⟩ | ⟨k, h1, hk, h2, h3⟩
  · have hf : zs.filter (fun x => !(x.1 == f)) = zs := List.filter_eq_self.2 (fun x hx => by rw [h2 x hx]; rfl)
    rw [h1] at hI
    rw [hf]
    have HF := Lib.hid hf; clear hf h1 h2
    go_enter Tryz.func239, Tryz.ntmps239
    go_wp2_with (go_at_call 244; refine hI.mono ?_; rintro _ w1 ⟨rfl, hb1⟩)
    go_ret
    exact ⟨cur, rfl, (hb1.block g (heap_lt hg)).trans hg, hcl, hc, Chg.of_below hb1⟩
  · rw [h1] at hI
    clear h1
    have hkk : ((k : Int) == -1) = false := by rw [beq_eq_false_iff_ne]; omega
    go_enter Tryz.func239, Tryz.ntmps239
    go_wp2_with (go_at_call 244; refine hI.mono ?_; rintro _ w1 ⟨rfl, hb1⟩)
    have hc1 : Chg (· = g) w w1 := Chg.of_below hb1
    have hg1 := (hb1.block g (heap_lt hg)).trans hg
    have h4 : (zs.take (k + 1)).filter (fun x => !(x.1 == f)) = zs.take k := by
      have e : zs[k]? = some zs[k] := by simp [hk]
      rw [stay_filter_succ e, h2, h3 _ e]; simp
    have hA := Lib.hid h4
    have hB := Lib.hid hc
    clear hb1 hI h2 h3 h4 hkk
    go_loopw [5, 6] (fun i j wr => ∃ (kk jj : Nat) (cu : List Value), i = .int .i64 (kk : Int) ∧ j = .int .i64 (jj : Int) ∧ jj ≤ zs.length ∧ kk < jj ∧ ((zs.take jj).filter (fun x => !(x.1 == f))).length = kk ∧ Chg (· = g) w wr ∧ wr.heap[g]? = some (.cells cu.toArray 125 (0, 0)) ∧ cu.length = cap * 4 ∧ CellsW cu 0 ((zs.take jj).filter (fun x => !(x.1 == f))) ∧ CellsW cu jj (zs.drop jj)) (fun _ j _ => zs.length - (RowKit.intOf j).toNat)
    case atStart =>
      refine ⟨k, k + 1, cur, rfl, by go_num, by omega, by omega, by rw [hA.out]; simp; omega, hc1, hg1, hcl, ?_, ?_⟩
      · rw [hA.out]
        intro t x hx c u hu
        rw [List.getElem?_take] at hx
        split at hx
        · exact hB.out t x hx c u hu
        · cases hx
      · intro t x hx c u hu
        rw [List.getElem?_drop] at hx
        have := hB.out (k + 1 + t) x hx c u hu
        rwa [Nat.zero_add] at this
    case round =>
      obtain ⟨kk, jj, cu, rfl, rfl, hjn, hkj, hlen, hc2, hg2, hcl2, hP, hS⟩ := hrel
      by_cases hlt : jj < zs.length
      · obtain ⟨x, hx⟩ : ∃ x, zs[jj]? = some x := ⟨zs[jj], by simp [hlt]⟩
        have hfs := Lib.hid (stay_filter_succ (f := f) hx)
        have hcc : ∀ c u, (encW x)[c]? = some u → cu[jj * 4 + c]? = some u := fun c u hu => by
          have := hS 0 x (by rw [List.getElem?_drop]; exact hx) c u hu
          simpa using this
        obtain ⟨xf, xs, xc, xF, xC⟩ := x
        have e0 := cell_of_heap hg2 (i := jj * 4 + 0) (v := .int .i64 (xf : Int)) (by have := hcc 0 _ rfl; simpa using this)
        have e1 := cell_of_heap hg2 (i := jj * 4 + 1) (v := .int .i64 (xs : Int)) (by have := hcc 1 _ rfl; simpa using this)
        have e2 := cell_of_heap hg2 (i := jj * 4 + 2) (v := .bool xc) (by have := hcc 2 _ rfl; simpa using this)
        have e3 := cell_of_heap hg2 (i := jj * 4 + 3) (v := .func (.func xF) #[] xC) (by have := hcc 3 _ rfl; simpa using this)
        simp only [Nat.add_zero] at e0
        have j0 : (0 : Int) ≤ (jj : Int) := by omega
        have j1 : (jj : Int) < (zs.length : Int) := by omega
        have HL := Lib.hid hlen; clear hlen hcc
        obtain ⟨W2, hW2⟩ : ∃ W2, wr.alloc (.cells #[.int .i64 (xf : Int), .int .i64 (xs : Int), .bool xc, .func (.func xF) #[] xC] 125) = W2 := ⟨_, rfl⟩
        have hb2 : Below wr.heap.size wr W2 := by rw [← hW2]; exact below_alloc _ _
        have hbox : W2.heap[wr.heap.size]? = some (.cells #[.int .i64 (xf : Int), .int .i64 (xs : Int), .bool xc, .func (.func xF) #[] xC] 125 (0, 0)) := by rw [← hW2]; exact World.alloc_heap_new wr _
        have hz2 : W2.heap.size = wr.heap.size + 1 := by rw [← hW2]; simp
        have hgr := heap_lt hg2
        have b0 := cell_of_heap hbox (i := 0) (v := .int .i64 (xf : Int)) (by rfl)
        have b1 := cell_of_heap hbox (i := 1) (v := .int .i64 (xs : Int)) (by rfl)
        have b2 := cell_of_heap hbox (i := 2) (v := .bool xc) (by rfl)
        have b3 := cell_of_heap hbox (i := 3) (v := .func (.func xF) #[] xC) (by rfl)
        have hcb2 : Chg (· = g) w W2 := hc2.trans (Chg.of_below hb2) (fun _ h _ => h)
        have hdel := delPred (n := f) (bx := bx) (W := W2) (hcb2.cell hbx hne) (xf, xs, xc, xF, xC)
        simp only [] at hdel hfs
        have hg3 := (hb2.block g hgr).trans hg2
        have HZ2 := Lib.hid hz2
        have hzl : wr.heap.size < W2.heap.size := by omega
        have HP := Lib.hid hP; clear hP
        have HS := Lib.hid (show CellsW cu (jj + 1) (zs.drop (jj + 1)) from fun t x hx c u hu => by
          rw [List.getElem?_drop] at hx
          have := hS (t + 1) x (by rw [List.getElem?_drop, show jj + (t + 1) = jj + 1 + t from by omega]; exact hx) c u hu
          rwa [show jj + (t + 1) = jj + 1 + t from by omega] at this)
        clear hz2 hS
        cases hq : (xf == f) with
        | true =>
          rw [hq] at hdel
          have hF : (zs.take (jj + 1)).filter (fun x => !(x.1 == f)) = (zs.take jj).filter (fun x => !(x.1 == f)) := by rw [hfs.out, hq]; simp
          clear hq
          go_wp2_with (go_at_call 240; refine hdel.mono ?_; rintro _ wd ⟨rfl, hbd⟩)
          go_roundw
          case rel => exact ⟨kk, jj + 1, cu, rfl, by go_num, by omega, by omega, by rw [hF]; exact HL.out, hcb2.trans (Chg.of_below hbd) (fun _ h _ => h), (hbd.block g (Nat.lt_of_lt_of_le hgr hb2.size)).trans hg3, hcl2, by rw [hF]; exact HP.out, HS.out⟩
          case measure => simp [RowKit.intOf]; omega
        | false =>
          rw [hq] at hdel
          have hF : (zs.take (jj + 1)).filter (fun x => !(x.1 == f)) = (zs.take jj).filter (fun x => !(x.1 == f)) ++ [(xf, xs, xc, xF, xC)] := by rw [hfs.out, hq]; rfl
          clear hq
          have HL2 : kk < cap := by omega
          go_wp2_with fail
          refine hdel.mono ?_
          rintro _ wd ⟨rfl, hbd⟩
          have hgd := (hbd.block g (Nat.lt_of_lt_of_le hgr hb2.size)).trans hg3
          have hbd' := (hbd.block wr.heap.size hzl).trans hbox
          have v0 := cell_of_heap hbd' (i := 0) (v := .int .i64 (xf : Int)) (by rfl)
          have v1 := cell_of_heap hbd' (i := 1) (v := .int .i64 (xs : Int)) (by rfl)
          have v2 := cell_of_heap hbd' (i := 2) (v := .bool xc) (by rfl)
          have v3 := cell_of_heap hbd' (i := 3) (v := .func (.func xF) #[] xC) (by rfl)
          have i0 : (0 : Int) ≤ (kk : Int) := by omega
          have i1 : (kk : Int) < (zs.length : Int) := by omega
          have hth := there_of (o := kk * 4) (n := 4) hgd (by rw [hcl2]; omega)
          have q0 : (∃ u, wd.cell? ⟨g, kk * 4, none⟩ = some u) ∧ wd.frozen? ⟨g, kk * 4, none⟩ = false := ⟨Option.isSome_iff_exists.1 (hth 0 (by omega)).1, (hth 0 (by omega)).2⟩
          have q1 : (∃ u, wd.cell? ⟨g, kk * 4 + 1, none⟩ = some u) ∧ wd.frozen? ⟨g, kk * 4 + 1, none⟩ = false := ⟨Option.isSome_iff_exists.1 (hth 1 (by omega)).1, (hth 1 (by omega)).2⟩
          have q2 : (∃ u, wd.cell? ⟨g, kk * 4 + 2, none⟩ = some u) ∧ wd.frozen? ⟨g, kk * 4 + 2, none⟩ = false := ⟨Option.isSome_iff_exists.1 (hth 2 (by omega)).1, (hth 2 (by omega)).2⟩
          have q3 : (∃ u, wd.cell? ⟨g, kk * 4 + 3, none⟩ = some u) ∧ wd.frozen? ⟨g, kk * 4 + 3, none⟩ = false := ⟨Option.isSome_iff_exists.1 (hth 3 (by omega)).1, (hth 3 (by omega)).2⟩
          obtain ⟨⟨u0, t0⟩, s0⟩ := q0
          obtain ⟨⟨u1, t1⟩, s1⟩ := q1
          obtain ⟨⟨u2, t2⟩, s2⟩ := q2
          obtain ⟨⟨u3, t3⟩, s3⟩ := q3
          have hgs := heap_setCells (encW (xf, xs, xc, xF, xC)) (kk * 4) wd g cu _ hgd (by rw [hcl2, encW_len]; omega)
          have hcs : Chg (· = g) wd (wd.setCells g (kk * 4) (encW (xf, xs, xc, xF, xC))) := Chg.setCells (O := (· = g)) rfl _ _ _
          have hsl : (splice cu (kk * 4) (encW (xf, xs, xc, xF, xC))).length = cap * 4 := by rw [length_splice _ _ _ (by rw [hcl2, encW_len]; omega), hcl2]
          have hsg := fun k => splice_get cu (encW (xf, xs, xc, xF, xC)) (kk * 4) k (by rw [hcl2, encW_len]; omega)
          have hP2 : CellsW (splice cu (kk * 4) (encW (xf, xs, xc, xF, xC))) 0 ((zs.take jj).filter (fun x => !(x.1 == f)) ++ [(xf, xs, xc, xF, xC)]) := by
            intro t x hx c u hu
            have hcl : c < 4 := by have := (List.getElem?_eq_some_iff.1 hu).1; simpa [encW] using this
            rw [hsg, encW_len]
            rw [List.getElem?_append, HL.out] at hx
            split at hx
            · rw [if_neg (by omega)]
              exact HP.out t x hx c u hu
            · have ht : t = kk := by
                have := (List.getElem?_eq_some_iff.1 hx).1
                simp at this; omega
              subst ht
              simp at hx
              subst hx
              rw [if_pos (by omega), show (0 + t) * 4 + c - t * 4 = c from by omega]
              exact hu
          have hS2 : CellsW (splice cu (kk * 4) (encW (xf, xs, xc, xF, xC))) (jj + 1) (zs.drop (jj + 1)) := by
            intro t x hx c u hu
            rw [hsg, encW_len, if_neg (by omega)]
            exact HS.out t x hx c u hu
          have HGS := Lib.hid hgs; clear hgs
          have HCS := Lib.hid hcs; clear hcs
          have HSL := Lib.hid hsl; clear hsl
          have HP2 := Lib.hid hP2; clear hP2
          have HS2 := Lib.hid hS2; clear hS2
          have HF := Lib.hid hF; clear hF
          clear hsg
          go_wp2
          go_roundw
          case rel => exact ⟨kk + 1, jj + 1, _, by go_num, by go_num, by omega, by omega, by rw [HF.out, List.length_append, HL.out]; rfl, (hcb2.trans (Chg.of_below hbd) (fun _ h _ => h)).trans HCS.out (fun _ h _ => h), HGS.out, HSL.out, by rw [HF.out]; exact HP2.out, HS2.out⟩
          case measure => simp [RowKit.intOf]; omega
      · obtain rfl : jj = zs.length := by omega
        obtain ⟨zl, hzl, hclr⟩ := run_clear_write wr g (kk * 4) (zs.length - kk) (cap - kk) (by omega) (there_of hg2 (by rw [hcl2]; omega))
        have hs1 := run_slice_loK (P := Tryz.prog) 111 125 4 Tryz.underlying111 Tryz.sizeOf125 g zs.length cap kk (by omega) (by omega)
        have hs2 := run_slice_hiK (P := Tryz.prog) 111 125 4 Tryz.underlying111 Tryz.sizeOf125 (some ⟨g, 0, none⟩) zs.length cap kk (by omega)
        have hg3 := heap_setCells zl (kk * 4) wr g cu _ hg2 (by rw [hcl2, hzl]; omega)
        have hc3 : Chg (· = g) w (wr.setCells g (kk * 4) zl) := hc2.trans (Chg.setCells (O := (· = g)) rfl zl _ _) (fun _ h _ => h)
        have hsl : (splice cu (kk * 4) zl).length = cap * 4 := by rw [length_splice _ _ _ (by rw [hcl2, hzl]; omega), hcl2]
        have hsg := fun k => splice_get cu zl (kk * 4) k (by rw [hcl2, hzl]; omega)
        rw [List.take_length] at hlen hP
        have hP2 : CellsW (splice cu (kk * 4) zl) 0 (zs.filter (fun x => !(x.1 == f))) := by
          intro t x hx c u hu
          have hcl : c < 4 := by have := (List.getElem?_eq_some_iff.1 hu).1; simpa [encW] using this
          have htl := (List.getElem?_eq_some_iff.1 hx).1
          rw [hsg, if_neg (by omega)]
          exact hP t x hx c u hu
        have HG3 := Lib.hid hg3; clear hg3
        have HC3 := Lib.hid hc3; clear hc3
        have HSL := Lib.hid hsl; clear hsl
        have HP2 := Lib.hid hP2; clear hP2
        have HL := Lib.hid hlen; clear hlen
        generalize wr.setCells g (kk * 4) zl = w4 at *
        clear hsg hP hS
        go_wp2
        go_ret
        exact ⟨_, by rw [HL.out]; rfl, HG3.out, HSL.out, HP2.out, HC3.out⟩

end Go.Proofs.YtlmdpcaikhdenaaGreat
