/- Disk: the disk in memory stays what it is; look-ups; the small methods. -/
import Derived.Test.YtgckcnnnblggbaaDkR
namespace Go.Proofs.Ytgckcnnnblggbaa
open Go.RowKit Go.Maps

/-! ### frames -/
theorem RowAt.chg {O : Nat → Prop} {w w' : World} {a : Option Addr} {xs : List Value} (h : RowAt w a xs) (hc : Chg O w w') (hO : xs ≠ [] → ∀ x, a = some x → ¬ O x.block) : RowAt w' a xs := fun hx => by
  obtain ⟨b, off, e, hcell⟩ := h hx
  exact ⟨b, off, e, fun j u hu => hc.cell (hcell j u hu) (show ¬ O b from hO hx ⟨b, off, none⟩ e)⟩
theorem BytesIn.kept {O R R' : Nat → Prop} {w w' : World} {v : Value} {l : List UInt8} (h : BytesIn w R v l) (hc : Chg O w w') (hO : ∀ b, R b → ¬ O b) (hR : ∀ b, R b → R' b) : BytesIn w' R' v l := by
  obtain ⟨a, c, e, h1, h2, h3, h4, h5⟩ := h
  have hne : l.map bv ≠ [] → l ≠ [] := fun h e => h (by rw [e]; rfl)
  exact ⟨a, c, e, h1, h2, h3.chg hc (fun hx x hxa => hO _ (h4 (hne hx) x hxa)), fun hl x hx => hR _ (h4 hl x hx), h5⟩
theorem BytesIn.nil (w : World) (R : Nat → Prop) : BytesIn w R (.slice none 0 0) [] := ⟨none, 0, rfl, Nat.le_refl _, fun _ => rfl, RowAt.nil _ _, fun h => absurd rfl h, fun x h => by cases h⟩
theorem FileIn.kept {O R R' : Nat → Prop} {w w' : World} {b : Nat} {d : List UInt8 × List UInt8} (h : FileIn w R b d) (hc : Chg O w w') (hO : ∀ b, R b → ¬ O b) (hR : ∀ b, R b → R' b) (hb : ¬ O b) : FileIn w' R' b d := by
  obtain ⟨e, vd, vs, h1, h2, h3⟩ := h
  exact ⟨e, vd, vs, hc.obj h1 hb, h2.kept hc hO hR, h3.kept hc hO hR⟩
theorem BoxIn.kept {O R R' : Nat → Prop} {w w' : World} {v x : Value} (h : BoxIn w R v x) (hc : Chg O w w') (hO : ∀ b, R b → ¬ O b) (hR : ∀ b, R b → R' b) : BoxIn w' R' v x := by
  obtain ⟨b, e, h1, h2⟩ := h
  exact ⟨b, e, hR b h1, hc.cell h2 (hO b h1)⟩
theorem StepIn.kept {O R R' : Nat → Prop} {w w' : World} {v : Value} {x : NStep} (h : StepIn w R v x) (hc : Chg O w w') (hO : ∀ b, R b → ¬ O b) (hR : ∀ b, R b → R' b) : StepIn w' R' v x := by
  cases x with
  | create k n => obtain ⟨x, y, e, h1, h2⟩ := h; exact ⟨x, y, e, h1.kept hc hO hR, h2.kept hc hO hR⟩
  | rename f t => obtain ⟨x, y, e, h1, h2⟩ := h; exact ⟨x, y, e, h1.kept hc hO hR, h2.kept hc hO hR⟩
  | remove k => obtain ⟨x, e, h1⟩ := h; exact ⟨x, e, h1.kept hc hO hR⟩
theorem LayIn.kept {O R R' : Nat → Prop} {w w' : World} {v : Value} {x : Wr} (h : LayIn w R v x) (hc : Chg O w w') (hO : ∀ b, R b → ¬ O b) (hR : ∀ b, R b → R' b) : LayIn w' R' v x := by
  unfold LayIn at h ⊢
  by_cases hx : x.cut = true
  · rw [if_pos hx] at h ⊢
    obtain ⟨y, e, h1⟩ := h; exact ⟨y, e, h1.kept hc hO hR⟩
  · rw [if_neg hx] at h ⊢
    obtain ⟨y, z, u, e, h1, h2, h3⟩ := h; exact ⟨y, z, u, e, h1.kept hc hO hR, h2.kept hc hO hR, h3.kept hc hO hR⟩
theorem WrIn.kept {O R R' : Nat → Prop} {w w' : World} {c : List Value} {x : Wr} (h : WrIn w R c x) (hc : Chg O w w') (hO : ∀ b, R b → ¬ O b) (hR : ∀ b, R b → R' b) : WrIn w' R' c x := by
  obtain ⟨f, e, h1⟩ := h; exact ⟨f, e, h1.kept hc hO hR⟩

theorem mem_own_vs {p mf mn : Nat} {vs vw : Value} {fb : List Nat} {k : Nat} (h : vs.ownBlock = some k) : k ∈ ownL p mf mn vs vw fb := by simp [ownL, h]
theorem mem_own_vw {p mf mn : Nat} {vs vw : Value} {fb : List Nat} {k : Nat} (h : vw.ownBlock = some k) : k ∈ ownL p mf mn vs vw fb := by simp [ownL, h]
theorem mem_own_fb {p mf mn : Nat} {vs vw : Value} {fb : List Nat} {k : Nat} (h : k ∈ fb) : k ∈ ownL p mf mn vs vw fb := by simp [ownL, h]
theorem mem_own_p {p mf mn : Nat} {vs vw : Value} {fb : List Nat} : p ∈ ownL p mf mn vs vw fb := by simp [ownL]
theorem mem_own_mf {p mf mn : Nat} {vs vw : Value} {fb : List Nat} : mf ∈ ownL p mf mn vs vw fb := by simp [ownL]
theorem mem_own_mn {p mf mn : Nat} {vs vw : Value} {fb : List Nat} : mn ∈ ownL p mf mn vs vw fb := by simp [ownL]

/-- what else changes leaves the disk as it is -/
theorem DiskP.kept {O R : Nat → Prop} {w w' : World} {p : Nat} {s : DSt} {mf mn ms : Nat} {fb : List Nat} {vs vw : Value} {ss : List Value} {ws : List (List Value)} {e : TypeId} (h : DiskP w p s R mf mn ms fb vs vw ss ws e) (hc : Chg O w w')
    (hO : ∀ b, R b → ¬ O b) (ho : ∀ b ∈ ownL p mf mn vs vw fb, ¬ O b) : DiskP w' p s R mf mn ms fb vs vw ss ws e where
  cells := hc.obj h.cells (ho _ mem_own_p)
  filesM := hc.map h.filesM (ho _ mem_own_mf)
  namesM := hc.map h.namesM (ho _ mem_own_mn)
  sureM := hc.map h.sureM (hO _ h.sureR)
  count := h.count
  file := fun i b d hb hd => (h.file i b d hb hd).kept hc hO (fun _ h => h) (ho _ (mem_own_fb (List.mem_of_getElem? hb)))
  stepsR := hc.row h.stepsR (fun k hk => ho _ (mem_own_vs hk))
  step := fun i v x hv hx => (h.step i v x hv hx).kept hc hO (fun _ h => h)
  writesR := hc.row h.writesR (fun k hk => ho _ (mem_own_vw hk))
  count4 := h.count4
  write := fun i v x hv hx => (h.write i v x hv hx).kept hc hO (fun _ h => h)
  apart := h.apart
  own := fun b hb => ⟨Nat.lt_of_lt_of_le (h.own b hb).1 hc.size, (h.own b hb).2⟩
  shared := fun b hb => Nat.lt_of_lt_of_le (h.shared b hb) hc.size
  sureR := h.sureR
theorem DiskAt.kept {O R : Nat → Prop} {w w' : World} {p : Nat} {s : DSt} {own : List Nat} (h : DiskAt w p s own R) (hc : Chg O w w') (hO : ∀ b, R b → ¬ O b) (ho : ∀ b ∈ own, ¬ O b) : DiskAt w' p s own R := by
  obtain ⟨mf, mn, ms, fb, vs, vw, ss, ws, e, h1, rfl⟩ := h
  exact ⟨mf, mn, ms, fb, vs, vw, ss, ws, e, h1.kept hc hO ho, rfl⟩

/-- what is new and not the disk's own is shared from now on -/
def RNew (R : Nat → Prop) (w w' : World) (own : List Nat) : Nat → Prop := fun b => R b ∨ (w.heap.size ≤ b ∧ b < w'.heap.size ∧ b ∉ own)
/-- A STEP OF THE DISK AT p: it stands as s' now -/
def Turns (w w' : World) (p : Nat) (s' : DSt) (own : List Nat) (R : Nat → Prop) : Prop :=
  ∃ own', DiskAt w' p s' own' (RNew R w w' own') ∧ Chg (· ∈ own) w w' ∧ ∀ b ∈ own', b ∈ own ∨ w.heap.size ≤ b

/-! ### look-ups -/
theorem zero_int : ∀ w, (zeroValue 3).run Try.prog w = .ok (.int .i64 0) w := Try.zeroValue3
theorem key_str {k : List UInt8} (h : k.length ≤ maxLen) : keyOf Try.prog 9 (sv k) = some (.string k) := by
  have := Go.WideMaps.keyOf_string_mk (P := Try.prog) (k := 9) Try.underlying9 (s := ⟨k.toArray⟩) (by simpa [ByteArray.size] using h)
  simpa [sv] using this
theorem elem_int {n : Nat} (h : n < 9223372036854775808) : plainElem (H := Unit) Try.prog 3 (.int .i64 (n : Int)) = some (.lit (.int .i64 (n : Int)), []) :=
  plainElem_int Try.underlying3 (wf_i64 (by omega) (by omega))
/-- names[k], with ok -/
theorem look_name {w : World} {b n : Nat} {l : NL} (h : w.ownsMap Try.prog 9 (plainElem Try.prog 3) b n (nameD l)) {k : List UInt8} (hk : k.length ≤ maxLen) :
    (Instr.lookup 61 (.map (some b)) (.string ⟨k.toArray⟩) true).run Try.prog w = .ok (.tuple #[.int .i64 (((nlFind l k).getD 0 : Nat) : Int), .bool (nlFind l k).isSome]) w := by
  obtain ⟨v, ps, hr, hv⟩ := h.look_ok (string_keyed Try.underlying9) Try.underlying61 (zero_int w) (elem_int (n := 0) (by omega)) (key_str hk)
  rw [nameD_at] at hv
  rw [nameD_has] at hr
  have hc : ∃ n : Nat, (nlFind l k).elim (DataW.lit (.int .i64 ((0 : Nat) : Int)) : DataW Unit) (fun n => .lit (.int .i64 (n : Int))) = .lit (.int .i64 (n : Int)) ∧ n = (nlFind l k).getD 0 := by
    cases nlFind l k <;> exact ⟨_, rfl, rfl⟩
  obtain ⟨n, e, rfl⟩ := hc
  rw [e] at hv
  obtain ⟨c, rfl, hcc, _⟩ := plainElem_int_inv Try.underlying3 hv
  simp only [Prod.mk.injEq, DataW.lit.injEq, Lit.int.injEq, true_and] at hcc
  rw [← hcc.1] at hr
  exact hr
/-- names[k], without -/
theorem look_name1 {w : World} {b n : Nat} {l : NL} (h : w.ownsMap Try.prog 9 (plainElem Try.prog 3) b n (nameD l)) {k : List UInt8} (hk : k.length ≤ maxLen) :
    (Instr.lookup 61 (.map (some b)) (.string ⟨k.toArray⟩) false).run Try.prog w = .ok (.int .i64 (((nlFind l k).getD 0 : Nat) : Int)) w := by
  obtain ⟨v, ps, hr, hv⟩ := h.lookup (string_keyed Try.underlying9) Try.underlying61 (zero_int w) (elem_int (n := 0) (by omega)) (key_str hk)
  rw [nameD_at] at hv
  have hc : ∃ n : Nat, (nlFind l k).elim (DataW.lit (.int .i64 ((0 : Nat) : Int)) : DataW Unit) (fun n => .lit (.int .i64 (n : Int))) = .lit (.int .i64 (n : Int)) ∧ n = (nlFind l k).getD 0 := by
    cases nlFind l k <;> exact ⟨_, rfl, rfl⟩
  obtain ⟨n, e, rfl⟩ := hc
  rw [e] at hv
  obtain ⟨c, rfl, hcc, _⟩ := plainElem_int_inv Try.underlying3 hv
  simp only [Prod.mk.injEq, DataW.lit.injEq, Lit.int.injEq, true_and] at hcc
  rw [← hcc.1] at hr
  exact hr

theorem filesD_at (fb : List Nat) (i : Nat) (h : i < fb.length) (z : DataW Unit) : (filesD fb).atKey (.int .i64 (i : Int)) z = .lit (.int .i64 (fb[i] : Int)) := by
  unfold filesD DataW.atKey
  simp only []
  have key : ∀ (l : List Nat) (o j : Nat) (hj : j < l.length), ((l.zipIdx o).map fileE).find? (fun p => p.1.sameKey (.int .i64 ((o + j : Nat) : Int))) = some (.int .i64 ((o + j : Nat) : Int), .lit (.int .i64 (l[j] : Int))) := by
    intro l
    induction l with
    | nil => intro o j hj; simp at hj
    | cons x r ih =>
      intro o j hj
      rw [List.zipIdx_cons, List.map_cons, List.find?_cons]
      have e : (fileE (x, o)).1.sameKey (.int .i64 ((o + j : Nat) : Int)) = decide (j = 0) := by
        simp [fileE, Lit.sameKey]
        omega
      rw [e]
      cases j with
      | zero => simp [fileE]
      | succ j =>
        have := ih (o + 1) j (by simpa using hj)
        rw [show o + 1 + j = o + (j + 1) from by omega] at this
        simp only [Nat.add_eq_zero_iff, Nat.one_ne_zero, and_false, decide_false]
        rw [this]
        rfl
  have := key fb 0 i h
  rw [Nat.zero_add] at this
  rw [this]
theorem zero_file : ∀ w, (zeroValue 75).run Try.prog w = .ok (.pointer none) w := Try.zeroValue75
/-- files[i] -/
theorem look_file {w : World} {b n : Nat} {fb : List Nat} (h : w.ownsMap Try.prog 3 ptrElem b n (filesD fb)) {i : Nat} (hi : i < fb.length) (h63 : i < 9223372036854775808) :
    (Instr.lookup 59 (.map (some b)) (.int .i64 (i : Int)) false).run Try.prog w = .ok (.pointer (some ⟨fb[i], 0, none⟩)) w := by
  obtain ⟨v, ps, hr, hv⟩ := h.lookup (int_keyed Try.underlying3) Try.underlying59 (zero_file w) (zd := .nil) (zp := []) rfl (keyOf_int_mk Try.underlying3 (wf_i64 (x := (i : Int)) (by omega) (by omega)))
  rw [filesD_at fb i hi] at hv
  rw [ptrElem_inv hv] at hr
  exact hr

/-! ### small methods -/
theorem run_equalIn_map (P : Program) (w : World) (d : Nat) (t k e : TypeId) (p : Option Nat) (h : P.underlying t = some (.map k e)) :
    (Op.equalIn (d + 1) t (.map p) (.map none)).run P w = .ok p.isNone w := by
  cases p <;> simp [Op.equalIn, run_underlying h]
theorem run_eql_map {P : Program} (t k e : TypeId) (p : Option Nat) (h : P.underlying t = some (.map k e)) (w : World) : (binOp .neq t (.map p) (.map none)).run P w = .ok (.bool p.isSome) w := by
  simp only [binOp]
  simp [show Op.equal t (.map p) (.map none) = Op.equalIn (9999 + 1) t (.map p) (.map none) from rfl, run_equalIn_map P w 9999 t k e p h]

set_option maxHeartbeats 1000000 in
theorem there_any {w : World} {p mn : Nat} {cs : Array Value} {e : TypeId} (h : w.heap[p]? = some (.cells cs e (0, 0))) (h2 : cs[2]? = some (.map (some mn))) :
    Calls Try.prog 45 #[.pointer (some ⟨p, 0, none⟩)] w fun e w' => e = .returned (.bool true) ∧ w = w' := by
  have hc := cell_of_heap h h2
  have hq := fun w => run_eql_map (P := Try.prog) 61 _ _ (some mn) Try.underlying61 w
  go_enter Try.func45, Try.ntmps45
  go_wp2
  go_ret
  exact ⟨rfl, rfl⟩

end Go.Proofs.Ytgckcnnnblggbaa
