/- Texts of this claim, one behind the other: RdO, RdP. -/
import Derived.Test.YtgckcnnnblggbaaGreatSt26
import Derived.Test.YtgckcnnnblggbaaGreatSt19
import Derived.Maps.AppendAt
set_option linter.unusedSimpArgs false
set_option linter.unusedVariables false
/- The document's disk: Files. (printed by gen/rfiles.py) -/
namespace Go.Proofs.YtgckcnnnblggbaaGreat
open Go.RowKit Go.Maps

/-- a file's two cells; its bytes lie at u -/
def encF (p : (List UInt8 × List UInt8) × Value) : List Value := [sv p.1.1, p.2]
/-- a list of files in a row of the call's own, bytes in blocks of R -/
def FRow (w : World) (lo : Nat) (R : Nat → Prop) (v : Value) (L : List (List UInt8 × List UInt8)) : Prop :=
  ∃ us : List Value, us.length = L.length ∧ w.ownsRow lo 56 2 v L.length (((L.zip us).map encF).flatten) ∧ ∀ (i : Nat) u d, us[i]? = some u → L[i]? = some d → BytesIn w (fun b => R b ∧ v.ownBlock ≠ some b) u d.2
theorem FRow.nil (w : World) (lo : Nat) (R : Nat → Prop) : FRow w lo R (.slice none 0 0) [] := ⟨[], rfl, World.ownsRow_nil _ _ _ _, fun i u d hu => by simp at hu⟩
theorem FRow.kept {w w' : World} {lo : Nat} {O R R' : Nat → Prop} {v : Value} {L : List (List UInt8 × List UInt8)} (h : FRow w lo R v L) (hc : Chg O w w') (hO : ∀ b, R b → ¬ O b) (hv : ∀ b, v.ownBlock = some b → ¬ O b) (hR : ∀ b, R b → R' b) : FRow w' lo R' v L := by
  obtain ⟨us, h0, h1, h2⟩ := h
  exact ⟨us, h0, hc.row h1 hv, fun i u d hu hd => (h2 i u d hu hd).kept hc (fun b hb => hO b hb.1) (fun b hb => ⟨hR b hb.1, hb.2⟩)⟩
theorem FRow.below {w w' : World} {lo : Nat} {R : Nat → Prop} {v : Value} {L : List (List UInt8 × List UInt8)} (h : FRow w lo R v L) (hb : Below w.heap.size w w') : FRow w' lo R v L :=
  h.kept (O := fun _ => False) (Chg.of_below hb) (fun _ _ h => h) (fun _ _ h => h) (fun _ h => h)
theorem FRow.slice {w : World} {lo : Nat} {R : Nat → Prop} {v : Value} {L : List (List UInt8 × List UInt8)} (h : FRow w lo R v L) : ∃ a c, v = .slice a L.length c := by
  obtain ⟨us, _, h1, _⟩ := h
  obtain ⟨a, c, rfl, _⟩ := ownsRow_cell h1
  exact ⟨a, c, rfl⟩
theorem encF_two : ∀ y : (List UInt8 × List UInt8) × Value, (encF y).length = 2 := fun _ => rfl
theorem FRow.arg {w : World} {lo : Nat} {R : Nat → Prop} {v : Value} {L : List (List UInt8 × List UInt8)} (h : FRow w lo R v L) : ∃ a c, v = .slice a L.length c ∧ (a = none → c = 0) ∧ FilesArg w a L := by
  obtain ⟨us, h0, h1, h2⟩ := h
  obtain ⟨a, c, rfl, _, hn, hat⟩ := ownsRow_cell h1
  refine ⟨a, c, rfl, hn, fun hL => ?_⟩
  have key : ∀ (i : Nat) d, L[i]? = some d → ∃ g, a = some ⟨g, 0, none⟩ ∧ w.cell? ⟨g, i * 2, none⟩ = some (sv d.1) ∧ ∃ ua uc, w.cell? ⟨g, i * 2 + 1, none⟩ = some (.slice ua d.2.length uc) ∧ (ua = none → uc = 0) ∧ RowAt w ua (d.2.map bv) := fun i d hd => by
    have hi := (List.getElem?_eq_some_iff.1 hd).1
    obtain ⟨u, hu⟩ : ∃ u, us[i]? = some u := ⟨us[i]'(by omega), by simp⟩
    have hz : (L.zip us)[i]? = some (d, u) := by rw [List.getElem?_zip_eq_some]; exact ⟨hd, hu⟩
    obtain ⟨g, rfl, q0⟩ := hat _ _ (flatK 2 encF (L.zip us) i (d, u) hz (fun y _ => encF_two y) 0 _ (by omega) rfl)
    obtain ⟨g1, e1, q1⟩ := hat _ _ (flatK 2 encF (L.zip us) i (d, u) hz (fun y _ => encF_two y) 1 _ (by omega) rfl)
    simp only [Option.some.injEq, Addr.mk.injEq, and_true] at e1
    subst e1
    obtain ⟨ua, uc, rfl, h3, h4, h5⟩ := (h2 i u d hu hd).row
    exact ⟨g, rfl, q0, ua, uc, q1, h4, h5⟩
  obtain ⟨d0, hd0⟩ : ∃ d, L[0]? = some d := ⟨L[0]'(by cases L <;> simp_all), by simp⟩
  obtain ⟨g, rfl, _⟩ := key 0 d0 hd0
  refine ⟨g, 0, rfl, fun i d hd => ?_⟩
  obtain ⟨g', e', q0, q1⟩ := key i d hd
  simp only [Option.some.injEq, Addr.mk.injEq, and_true] at e'
  subst e'
  simp only [Nat.zero_add]
  exact ⟨q0, q1⟩
theorem FRow.push {w w' : World} {lo g : Nat} {R R' : Nat → Prop} {v v' u : Value} {L : List (List UInt8 × List UInt8)} {nm l : List UInt8} {us : List Value} (h0 : us.length = L.length) (h2 : ∀ (i : Nat) u d, us[i]? = some u → L[i]? = some d → BytesIn w (fun b => R b ∧ v.ownBlock ≠ some b) u d.2) (hc : Chg (fun b => v.ownBlock = some b) w w')
    (h : w'.ownsRow lo 56 2 v' (L.length + 1) (((L.zip us).map encF).flatten ++ [sv nm, u])) (hat : v'.ownBlock = v.ownBlock ∨ v'.ownBlock = some g) (hg : ∀ b, R b → b ≠ g) (hu : BytesIn w' (fun b => R' b ∧ v'.ownBlock ≠ some b) u l) (hR : ∀ b, R b → R' b) : FRow w' lo R' v' (L ++ [(nm, l)]) := by
  refine ⟨us ++ [u], by simp [h0], ?_, fun i y z hy hz => ?_⟩
  · rw [List.zip_append h0.symm]
    simp only [List.length_append, List.length_singleton, List.zip_cons_cons, List.zip_nil_right, List.map_append, List.map_cons, List.map_nil, List.flatten_append, List.flatten_cons, List.flatten_nil, List.append_nil]
    exact h
  · rcases app_one hy hz h0 with ⟨h1, h3⟩ | ⟨rfl, rfl⟩
    · refine (h2 i _ _ h1 h3).kept hc (fun b hb => hb.2) (fun b hb => ⟨hR b hb.1, ?_⟩)
      rcases hat with e | e
      · rw [e]; exact hb.2
      · rw [e]; intro e2; cases e2; exact hg _ hb.1 rfl
    · exact hu
/-- append, at a step of a region, and where the row lies then -/
theorem wp_append_own_at {P : Program} {w : World} {o : Oper} {a : Act} {K : Act → World → Prop} {Q : Exit → Act → World → Prop} (s x : Operand) (t : TypeId)
    (ho : o.op = .call { callee := .builtin .append, args := #[s, x], argTypes := #[t, t] })
    (base : Nat) (e : TypeId) (i : TypeInfo) (z : Value) (size bytes : Nat) (ht : P.underlying t = some (.slice e)) (hi : P.info? e = some i) (hz : i.zero = some z)
    (hsize : i.size = size) (hby : i.bytes = bytes) (hzs : z.cells.size = size) (hsz : 0 < size)
    (v : Value) (n : Nat) (xs : List Value) (hs : a.eval s = v) (hown : w.ownsRow base e size v n xs)
    (ad : Addr) (m c : Nat) (news : List Value) (hx : a.eval x = .slice (some ad) m c) (hl : news.length = m * size) (hnews : ∀ j u, news[j]? = some u → w.cell? (ad.add j) = some u) (h1 : ∀ u ∈ news, u.oneCell' = true)
    (h63 : n + m ≤ maxLen) (hbytes : (n + m) * bytes ≤ 140737488355328) (hbase : base ≤ w.heap.size)
    (h : ∀ v' w', w'.ownsRow base e size v' (n + m) (xs ++ news) → w.grownBy w' v.ownBlock → (v'.ownBlock = v.ownBlock ∨ v'.ownBlock = some w.heap.size) → K (a.put o.dst v') w') : o.wp P a w K Q := by
  obtain ⟨v', w', hr, h2, h3, _, h5⟩ := run_append_own_at (P := P) w base t o.type e i z size bytes ht hi hz hsize hby hzs hsz v n xs hown ad m c news hl hnews h1 h63 hbytes hbase
  unfold Oper.wp execOp
  simp only [ho, resolve, invoke, builtin, Sem.run_bind, Sem.run_pure, Result.andThen_ok, List.map_toArray, List.map_cons, List.map_nil, hs, hx, hr]
  exact h v' w' h2 h3 h5

section
variable {w : World} {r : Nat} {s : DSt} {R : Nat → Prop} {N : Nat}
set_option maxRecDepth 100000 in
set_option maxHeartbeats 8000000 in
theorem rFiles_row (h : RAt w r s R) (hk : s.Ok N) (hN : N ≤ 4194304) :
    Calls Tryz.prog 18 #[.pointer (some ⟨r, 0, none⟩)] w fun e w' => ∃ v, e = .returned v ∧ FRow w' w.heap.size (NewIn w w') v s.all ∧ Below w.heap.size w w' := by
  have hmax : maxLen = 9223372036854775807 := rfl
  have hmf : maxFile = 1099511627776 := rfl
  obtain ⟨i1, hi1, hw0, hw1, hw2⟩ := info_parts Tryz.info56
  have hrl := h.r_lt
  obtain ⟨vst, vla, vna, vsu, vsp, vwr, e, h⟩ := h
  have hn := hk.manyNames
  have hf := hk.manyFiles
  have hnames := hk.names
  have hob := h.cells
  obtain ⟨na, nc, rfl, hat⟩ := h.names.1.at_
  obtain ⟨a, c, rfl, _, _, hst⟩ := h.stand
  have c3 := cell_of_heap hob (i := 3) (v := .slice na s.names.length nc) (by rfl)
  have c1 := cell_of_heap hob (i := 1) (v := .slice a s.files.length c) (by rfl)
  have hsl := fun f => hk.stands_le f
  have HAT := Lib.hid hat
  have HST := Lib.hid hst
  have HN := Lib.hid hnames
  have HSL := Lib.hid hsl
  clear hat hst hnames hsl
  go_enter Tryz.func18, Tryz.ntmps18
  go_wp2
  go_loopw [3, 4] (fun v i wr => ∃ n : Nat, n ≤ s.names.length ∧ i = .int .i64 n ∧ Below w.heap.size w wr ∧ FRow wr w.heap.size (NewIn w wr) v ((s.names.take n).map fun p => (p.1, s.stands p.2))) (fun _ i _ => s.names.length - (RowKit.intOf i).toNat)
  case atStart => exact ⟨0, by omega, rfl, Below.refl _ _, FRow.nil _ _ _⟩
  case round =>
    obtain ⟨n, hn', rfl, hb, hF⟩ := hrel
    have hsz := hb.size
    have k3 := (Chg.of_below (O := fun _ => False) hb).cell c3 (fun h => h)
    have k1 := (Chg.of_below (O := fun _ => False) hb).cell c1 (fun h => h)
    by_cases hlt : n < s.names.length
    · obtain ⟨p, hp⟩ : ∃ p, s.names[n]? = some p := ⟨s.names[n]'hlt, by simp⟩
      obtain ⟨g, rfl, q0', q1'⟩ := HAT.out n p hp
      have hpf := (HN.out p (List.mem_of_getElem? hp)).1
      obtain ⟨g2, ua, uc, rfl, cf', hB, _⟩ := HST.out p.2 hpf
      have hsl := HSL.out p.2
      have q0 := (Chg.of_below (O := fun _ => False) hb).cell q0' (fun h => h)
      have q1 := (Chg.of_below (O := fun _ => False) hb).cell q1' (fun h => h)
      have cf := (Chg.of_below (O := fun _ => False) hb).cell cf' (fun h => h)
      have hj0 : (0 : Int) ≤ (n : Int) := by omega
      have hj1 : (n : Int) < (s.names.length : Int) := by omega
      have hj2 : (0 : Int) ≤ (p.2 : Int) := by omega
      have hj3 : (p.2 : Int) < (s.files.length : Int) := by omega
      have hlenF : ((s.names.take n).map fun p => (p.1, s.stands p.2)).length = n := by rw [List.length_map, List.length_take]; omega
      have htk : (s.names.take (n + 1)).map (fun p => (p.1, s.stands p.2)) = (s.names.take n).map (fun p => (p.1, s.stands p.2)) ++ [(p.1, s.stands p.2)] := by
        obtain ⟨h1, e1⟩ := List.getElem?_eq_some_iff.1 hp
        rw [List.take_succ_eq_append_getElem h1, e1]; simp
      obtain ⟨fa0, fc0, hv0⟩ := hF.slice
      rw [hlenF] at hv0
      subst hv0
      obtain ⟨us, hus0, hus1, hus2⟩ := hF
      have hrowu : RowAt w ua ((s.stands p.2).map bv) := by
        obtain ⟨ua', uc', eu, _, _, hr⟩ := hB.row
        simp only [Value.slice.injEq] at eu
        rw [eu.1]; exact hr
      have hnilu : ua = none → uc = 0 := by
        obtain ⟨ua', uc', eu, _, h2, _⟩ := hB.row
        simp only [Value.slice.injEq] at eu
        obtain ⟨rfl, _, rfl⟩ := eu
        exact h2
      have hcp := fun (W : World) (hW : Below w.heap.size w W) => rcopied_own ua uc (s.stands p.2) W hnilu (hrowu.below hW) (by omega)
      have HTK := Lib.hid htk
      have HUS2 := Lib.hid hus2
      rw [hlenF] at hus0 hus1
      clear htk hp hB hrowu hus2
      go_wp2
      have hS0 := And.intro k1 (And.intro k3 (And.intro q0 (And.intro q1 cf)))
      refine wp_region_held_drew (S := fun w' => w'.cell? ⟨r, 1, none⟩ = some (.slice (some ⟨g2, 0, none⟩) s.files.length c) ∧ w'.cell? ⟨r, 3, none⟩ = some (.slice (some ⟨g, 0, none⟩) s.names.length nc) ∧ w'.cell? ⟨g, n * 2, none⟩ = some (.string ⟨p.1.toArray⟩) ∧ w'.cell? ⟨g, n * 2 + 1, none⟩ = some (.int .i64 (p.2 : Int)) ∧ w'.cell? ⟨g2, p.2, none⟩ = some (.slice ua (s.stands p.2).length uc)) (by kernel_rfl) (hS0) (fun hHeld => ?_)
      refine wpAnyH_take (i := 0) (v := ?_) rfl (by kernel_rfl) (by kernel_rfl) (by kernel_rfl) (fun _ _ _ h => h) (Or.inl ⟨by rfl, ?_⟩) hHeld ?_
      rotate_left
      · intro w hSw; (try dsimp only at hSw); go_simp
        all_goals (with_reducible rfl)
      (try simp only [Act.put, List.setIfInBounds_toArray, List.set_cons_zero, List.set_cons_succ])
      refine wpAnyH_take (i := 1) (v := ?_) rfl (by kernel_rfl) (by kernel_rfl) (by kernel_rfl) (fun _ _ _ h => h) (Or.inl ⟨by rfl, ?_⟩) hHeld ?_
      rotate_left
      · intro w hSw; (try dsimp only at hSw); go_simp
        all_goals (with_reducible rfl)
      (try simp only [Act.put, List.setIfInBounds_toArray, List.set_cons_zero, List.set_cons_succ])
      refine wpAnyH_take (i := 2) (v := ?_) rfl (by kernel_rfl) (by kernel_rfl) (by kernel_rfl) (fun _ _ _ h => h) (Or.inl ⟨by rfl, ?_⟩) hHeld ?_
      rotate_left
      · intro w hSw; (try dsimp only at hSw); go_simp
        all_goals (with_reducible rfl)
      (try simp only [Act.put, List.setIfInBounds_toArray, List.set_cons_zero, List.set_cons_succ])
      refine wpAnyH_take (i := 3) (v := ?_) rfl (by kernel_rfl) (by kernel_rfl) (by kernel_rfl) (fun _ _ _ h => h) (Or.inl ⟨by rfl, ?_⟩) hHeld ?_
      rotate_left
      · intro w hSw; (try dsimp only at hSw); go_simp
        all_goals (with_reducible rfl)
      (try simp only [Act.put, List.setIfInBounds_toArray, List.set_cons_zero, List.set_cons_succ])
      refine wpAnyH_take (i := 4) (v := ?_) rfl (by kernel_rfl) (by kernel_rfl) (by kernel_rfl) (fun _ _ _ h => h) (Or.inl ⟨by rfl, ?_⟩) hHeld ?_
      rotate_left
      · intro w hSw; (try dsimp only at hSw); go_simp
        all_goals (with_reducible rfl)
      (try simp only [Act.put, List.setIfInBounds_toArray, List.set_cons_zero, List.set_cons_succ])
      refine wpAnyH_take (i := 5) (v := ?_) rfl (by kernel_rfl) (by kernel_rfl) (by kernel_rfl) (fun _ _ _ h => h) (Or.inl ⟨by rfl, ?_⟩) hHeld ?_
      rotate_left
      · intro w hSw; (try dsimp only at hSw); go_simp
        all_goals (with_reducible rfl)
      (try simp only [Act.put, List.setIfInBounds_toArray, List.set_cons_zero, List.set_cons_succ])
      refine wpAnyH_take (i := 6) (v := ?_) rfl (by kernel_rfl) (by kernel_rfl) (by kernel_rfl) (fun _ _ _ h => h) (Or.inl ⟨by rfl, ?_⟩) hHeld ?_
      rotate_left
      · intro w hSw; (try dsimp only at hSw); go_simp
        all_goals (with_reducible rfl)
      (try simp only [Act.put, List.setIfInBounds_toArray, List.set_cons_zero, List.set_cons_succ])
      refine wpAnyH_take (i := 7) (v := ?_) rfl (by kernel_rfl) (by kernel_rfl) (by kernel_rfl) (fun _ _ _ h => h) (Or.inl ⟨by rfl, ?_⟩) hHeld ?_
      rotate_left
      · intro w hSw; (try dsimp only at hSw); go_simp
        all_goals (with_reducible rfl)
      (try simp only [Act.put, List.setIfInBounds_toArray, List.set_cons_zero, List.set_cons_succ])
      refine wpAnyH_take (i := 8) (v := ?_) rfl (by kernel_rfl) (by kernel_rfl) (by kernel_rfl) (fun _ _ _ h => h) (Or.inl ⟨by rfl, ?_⟩) hHeld ?_
      rotate_left
      · intro w hSw; (try dsimp only at hSw); go_simp
        all_goals (with_reducible rfl)
      (try simp only [Act.put, List.setIfInBounds_toArray, List.set_cons_zero, List.set_cons_succ])
      refine wpAnyH_take (i := 9) (v := ?_) rfl (by kernel_rfl) (by kernel_rfl) (by kernel_rfl) (fun _ _ _ h => h) (Or.inl ⟨by rfl, ?_⟩) hHeld ?_
      rotate_left
      · intro w hSw; (try dsimp only at hSw); go_simp
        all_goals (with_reducible rfl)
      (try simp only [Act.put, List.setIfInBounds_toArray, List.set_cons_zero, List.set_cons_succ])
      refine wpAnyH_take (i := 10) (v := ?_) rfl (by kernel_rfl) (by kernel_rfl) (by kernel_rfl) (fun _ _ _ h => h) (Or.inl ⟨by rfl, ?_⟩) hHeld ?_
      rotate_left
      · intro w hSw; (try dsimp only at hSw); go_simp
        all_goals (with_reducible rfl)
      (try simp only [Act.put, List.setIfInBounds_toArray, List.set_cons_zero, List.set_cons_succ])
      refine wpAnyH_take (i := 11) (v := ?_) rfl (by kernel_rfl) (by kernel_rfl) (by kernel_rfl) (fun _ _ _ h => h) (Or.inl ⟨by rfl, ?_⟩) hHeld ?_
      rotate_left
      · intro w hSw; (try dsimp only at hSw); go_simp
        all_goals (with_reducible rfl)
      (try simp only [Act.put, List.setIfInBounds_toArray, List.set_cons_zero, List.set_cons_succ])
      refine wpAnyH_take (i := 12) (v := ?_) rfl (by kernel_rfl) (by kernel_rfl) (by kernel_rfl) (fun _ _ _ h => h) (Or.inl ⟨by rfl, ?_⟩) hHeld ?_
      rotate_left
      · intro w hSw; (try dsimp only at hSw); go_simp
        all_goals (with_reducible rfl)
      (try simp only [Act.put, List.setIfInBounds_toArray, List.set_cons_zero, List.set_cons_succ])
      refine wpAnyH_take (i := 13) (v := ?_) rfl (by kernel_rfl) (by kernel_rfl) (by kernel_rfl) (fun _ _ _ h => h) (Or.inl ⟨by rfl, ?_⟩) hHeld ?_
      rotate_left
      · intro w hSw; (try dsimp only at hSw); go_simp
        all_goals (with_reducible rfl)
      (try simp only [Act.put, List.setIfInBounds_toArray, List.set_cons_zero, List.set_cons_succ])
      refine wpAnyH_take (i := 14) (v := ?_) rfl (by kernel_rfl) (by kernel_rfl) (by kernel_rfl) (fun _ _ _ h => h) (Or.inl ⟨by rfl, ?_⟩) hHeld ?_
      rotate_left
      · intro w hSw; (try dsimp only at hSw); go_simp
        all_goals (with_reducible rfl)
      (try simp only [Act.put, List.setIfInBounds_toArray, List.set_cons_zero, List.set_cons_succ])
      refine wpAnyH_take (i := 15) (v := ?_) rfl (by kernel_rfl) (by kernel_rfl) (by kernel_rfl) (fun _ _ _ h => h) (Or.inl ⟨by rfl, ?_⟩) hHeld ?_
      rotate_left
      · intro w hSw; (try dsimp only at hSw); go_simp
        all_goals (with_reducible rfl)
      (try simp only [Act.put, List.setIfInBounds_toArray, List.set_cons_zero, List.set_cons_succ])
      refine wpAnyH_take (i := 16) (v := ?_) rfl (by kernel_rfl) (by kernel_rfl) (by kernel_rfl) (fun _ _ _ h => h) (Or.inl ⟨by rfl, ?_⟩) hHeld ?_
      rotate_left
      · intro w hSw; (try dsimp only at hSw); go_simp
        all_goals (with_reducible rfl)
      (try simp only [Act.put, List.setIfInBounds_toArray, List.set_cons_zero, List.set_cons_succ])
      refine wpAnyH_take (i := 17) (v := ?_) rfl (by kernel_rfl) (by kernel_rfl) (by kernel_rfl) (fun _ _ _ h => h) (Or.inl ⟨by rfl, ?_⟩) hHeld ?_
      rotate_left
      · intro w hSw; (try dsimp only at hSw); go_simp
        all_goals (with_reducible rfl)
      (try simp only [Act.put, List.setIfInBounds_toArray, List.set_cons_zero, List.set_cons_succ])
      refine wpAnyH_take (i := 18) (v := ?_) rfl (by kernel_rfl) (by kernel_rfl) (by kernel_rfl) (fun _ _ _ h => h) (Or.inl ⟨by rfl, ?_⟩) hHeld ?_
      rotate_left
      · intro w hSw; (try dsimp only at hSw); go_simp
        all_goals (with_reducible rfl)
      (try simp only [Act.put, List.setIfInBounds_toArray, List.set_cons_zero, List.set_cons_succ])
      refine wpAnyH_take (i := 19) (v := ?_) rfl (by kernel_rfl) (by kernel_rfl) (by kernel_rfl) (fun _ _ _ h => h) (Or.inl ⟨by rfl, ?_⟩) hHeld ?_
      rotate_left
      · intro w hSw; (try dsimp only at hSw); go_simp
        all_goals (with_reducible rfl)
      (try simp only [Act.put, List.setIfInBounds_toArray, List.set_cons_zero, List.set_cons_succ])
      refine wpAnyH_take (i := 20) (v := ?_) rfl (by kernel_rfl) (by kernel_rfl) (by kernel_rfl) (fun _ _ _ h => h) (Or.inl ⟨by rfl, ?_⟩) hHeld ?_
      rotate_left
      · intro w hSw; (try dsimp only at hSw); go_simp
        all_goals (with_reducible rfl)
      (try simp only [Act.put, List.setIfInBounds_toArray, List.set_cons_zero, List.set_cons_succ])
      refine wpAnyH_take (i := 21) (v := ?_) rfl (by kernel_rfl) (by kernel_rfl) (by kernel_rfl) (fun _ _ _ h => h) (Or.inl ⟨by rfl, ?_⟩) hHeld ?_
      rotate_left
      · intro w hSw; (try dsimp only at hSw); go_simp
        all_goals (with_reducible rfl)
      (try simp only [Act.put, List.setIfInBounds_toArray, List.set_cons_zero, List.set_cons_succ])
      refine wpAnyH_take (i := 22) (v := ?_) rfl (by kernel_rfl) (by kernel_rfl) (by kernel_rfl) (fun _ _ _ h => h) (Or.inl ⟨by rfl, ?_⟩) hHeld ?_
      rotate_left
      · intro w hSw; (try dsimp only at hSw); go_simp
        all_goals (with_reducible rfl)
      (try simp only [Act.put, List.setIfInBounds_toArray, List.set_cons_zero, List.set_cons_succ])
      refine wpAnyH_ready (rs := [23]) (by kernel_rfl) (by simp) ?_
      refine AllReadyH.cons rfl (fun K hK => ?_) AllReadyH.nil
      go_simp
      go_wp2_with (first | (go_at_call 33; refine (hcp _ (hb.drew)).mono ?_; rintro _ w2 ⟨u2, rfl, hu2, hb2⟩; replace hb2 : Below wr.heap.size wr w2 := ⟨hb2.os, hb2.tape, hb2.output, hb2.size, hb2.block⟩; replace hu2 : w2.ownsRow wr.heap.size 5 1 u2 (s.stands p.2).length ((s.stands p.2).map bv) := hu2; obtain ⟨va2, vc2, rfl, _, _⟩ := RowAt.of_owns hu2))
      have hcb := Chg.of_below (O := fun _ => False) hb2
      have hS2 := And.intro (hcb.cell k1 (fun h => h)) (And.intro (hcb.cell k3 (fun h => h)) (And.intro (hcb.cell q0 (fun h => h)) (And.intro (hcb.cell q1 (fun h => h)) (hcb.cell cf (fun h => h)))))
      refine hK.out _ _ (hS2) (fun hHeld => ?_)
      clear hK K
      (try simp only [Act.put, List.setIfInBounds_toArray, List.set_cons_zero, List.set_cons_succ])
      refine wpAnyH_take (i := 24) (v := ?_) rfl (by kernel_rfl) (by kernel_rfl) (by kernel_rfl) (fun _ _ _ h => h) (Or.inl ⟨by rfl, ?_⟩) hHeld ?_
      rotate_left
      · intro w hSw; (try dsimp only at hSw); go_simp
        all_goals (with_reducible rfl)
      (try simp only [Act.put, List.setIfInBounds_toArray, List.set_cons_zero, List.set_cons_succ])
      refine wpAnyH_ready (rs := [25]) (by kernel_rfl) (by simp) ?_
      refine AllReadyH.cons rfl (fun K hK => ?_) AllReadyH.nil
      go_simp
      have hc2a : Chg (fun _ => False) w2 (w2.alloc (.cells #[.string ⟨p.1.toArray⟩, .slice va2 (s.stands p.2).length vc2] 56)) := Chg.alloc _ _ _
      have hS3 := And.intro (hc2a.cell hS2.1 (fun h => h)) (And.intro (hc2a.cell hS2.2.1 (fun h => h)) (And.intro (hc2a.cell hS2.2.2.1 (fun h => h)) (And.intro (hc2a.cell hS2.2.2.2.1 (fun h => h)) (hc2a.cell hS2.2.2.2.2 (fun h => h)))))
      have hvl := fun b (h : (Value.slice fa0 n fc0).ownBlock = some b) => hus1.lt b h
      refine hK.out _ _ (hS3) (fun hHeld => ?_)
      clear hK K
      (try simp only [Act.put, List.setIfInBounds_toArray, List.set_cons_zero, List.set_cons_succ])
      refine wpAnyH_ready (rs := [26]) (by kernel_rfl) (by simp) ?_
      refine AllReadyH.cons rfl (fun K hK => ?_) AllReadyH.nil
      rw [if_pos (by rfl)]
      refine wp_append_own_at (.tmp 18) (.tmp 43) 22 rfl w.heap.size 56 i1 _ 2 40 Tryz.underlying22 hi1 hw0 hw1 hw2 rfl (by decide) (.slice fa0 n fc0) n _ rfl ((hc2a.row (hcb.row hus1 (fun _ _ h => h)) (fun _ _ h => h))) ⟨w2.heap.size, 0, none⟩ 1 1 [sv p.1, .slice va2 (s.stands p.2).length vc2] rfl rfl (fun j u hu => by rw [addr_add]; exact cell_new w2 _ _ j u (by simpa [sv] using hu)) (by simp [sv, Value.oneCell']) (by omega) (by omega) (by rw [World.size_alloc]; have := hb2.size; omega) ?_
      intro v5 w5 hv5 hg5 hat5
      rw [World.size_alloc] at hat5
      have hc5 : Chg (fun b => w.heap.size ≤ b) (w2.alloc (.cells #[.string ⟨p.1.toArray⟩, .slice va2 (s.stands p.2).length vc2] 56)) w5 := Chg.of_grown hg5 (fun k e _ => (hvl k e).1)
      have hlo : ∀ (a : Addr) u, w.cell? a = some u → ¬ (w.heap.size ≤ a.block) := fun a u h => by have := cell_lt h; omega
      have hS4 := And.intro (hc5.cell hS3.1 (hlo _ _ c1)) (And.intro (hc5.cell hS3.2.1 (hlo _ _ c3)) (And.intro (hc5.cell hS3.2.2.1 (hlo _ _ q0')) (And.intro (hc5.cell hS3.2.2.2.1 (hlo _ _ q1')) (hc5.cell hS3.2.2.2.2 (hlo _ _ cf')))))
      refine hK.out _ _ (hS4) (fun hHeld => ?_)
      clear hK K
      (try simp only [Act.put, List.setIfInBounds_toArray, List.set_cons_zero, List.set_cons_succ])
      refine wpAnyH_take (i := 27) (v := ?_) rfl (by kernel_rfl) (by kernel_rfl) (by kernel_rfl) (fun _ _ _ h => h) (Or.inl ⟨by rfl, ?_⟩) hHeld ?_
      rotate_left
      · intro w hSw; (try dsimp only at hSw); go_simp
        all_goals (with_reducible rfl)
      (try simp only [Act.put, List.setIfInBounds_toArray, List.set_cons_zero, List.set_cons_succ])
      refine wpAnyH_done (by kernel_rfl) ?_ _
      go_wp2
      have hb5 : Below w.heap.size w w5 := ((hb.trans (hb2.mono hsz)).alloc (by have := hb2.size; omega) _).grown hg5 (by rw [World.size_alloc]; have := hb2.size; omega) (fun b e => (hvl b e).1)
      have hc25 : Chg (fun b => (Value.slice fa0 n fc0).ownBlock = some b) w2 w5 := (Chg.alloc (fun b => (Value.slice fa0 n fc0).ownBlock = some b) w2 _).trans (Chg.of_grown hg5 (fun k e _ => e)) (fun _ h _ => h)
      have hcr5 : Chg (fun b => (Value.slice fa0 n fc0).ownBlock = some b) wr w5 := (hcb.mono (fun _ h _ => h.elim)).trans hc25 (fun _ h _ => h)
      have hz2 := hb2.size
      have hz5 := hc25.size
      have hu5 : BytesIn w5 (fun b => NewIn w w5 b ∧ v5.ownBlock ≠ some b) (.slice va2 (s.stands p.2).length vc2) (s.stands p.2) := by
        refine (BytesIn.of_owns (R := fun b => wr.heap.size ≤ b ∧ b < w2.heap.size) hu2 (fun b h1 h2 => ⟨h1, h2⟩)).kept hc25 (fun b hb e => by have := (hvl b e).2; omega) (fun b hb => ⟨⟨by omega, by omega⟩, ?_⟩)
        rcases hat5 with e | e
        · rw [e]; intro e2; have := (hvl b e2).2; omega
        · rw [e]; intro e2; cases e2; omega
      go_roundw
      case rel => exact ⟨n + 1, by omega, by go_num, hb5, by
        rw [HTK.out]
        exact FRow.push (w := wr) (by rw [hlenF]; exact hus0) HUS2.out hcr5 (by rw [hlenF]; exact hv5) hat5 (fun b hb => by have := hb.2; omega) hu5 (fun b hb => ⟨hb.1, by have := hb.2; omega⟩)⟩
      case measure => simp [RowKit.intOf]; omega
    · obtain rfl : n = s.names.length := by omega
      rw [List.take_length] at hF
      obtain ⟨fa, fc, hv0⟩ := hF.slice
      rw [List.length_map] at hv0
      subst hv0
      have hj1 : ¬ (s.names.length : Int) < (s.names.length : Int) := by omega
      go_wp2
      go_ret
      exact ⟨_, rfl, hF, hb⟩
end

end Go.Proofs.YtgckcnnnblggbaaGreat
/- The document's disk: Copy, New; all rows of a disk of files that is being made. -/
namespace Go.Proofs.YtgckcnnnblggbaaGreat
open Go.RowKit Go.Maps

theorem rFiles_any {w : World} {r : Nat} {s : DSt} {R : Nat → Prop} {N : Nat} (h : RAt w r s R) (hk : s.Ok N) (hN : N ≤ 4194304) :
    Calls Tryz.prog 18 #[.pointer (some ⟨r, 0, none⟩)] w fun e w' => ∃ fa fc, e = .returned (.slice fa s.all.length fc) ∧ FilesRd w' fa s.all ∧ Below w.heap.size w w' := by
  refine (rFiles_row h hk hN).mono ?_
  rintro _ w1 ⟨v, rfl, hF, hb⟩
  obtain ⟨a, c, rfl, _, hA⟩ := hF.arg
  exact ⟨a, c, rfl, hA.rd, hb⟩
theorem rNew_no (cap : Int) (h : cap < 0 ∨ 1099511627776 < cap) (w : World) : Calls Tryz.prog 23 #[.int .i64 cap] w fun e w' => e = .returned (.tuple #[.pointer none, .int .i64 2]) ∧ w = w' := by
  by_cases h1 : cap < 0
  · go_enter Tryz.func23, Tryz.ntmps23
    go_wp2
    go_ret2
    exact ⟨rfl, rfl⟩
  · have h2 : 1099511627776 < cap := by omega
    go_enter Tryz.func23, Tryz.ntmps23
    go_wp2
    go_ret2
    exact ⟨rfl, rfl⟩
theorem rNew_yes (cap : Nat) (h : cap ≤ 1099511627776) (w : World) : Calls Tryz.prog 23 #[.int .i64 (cap : Int)] w fun e w' => e = .returned (.tuple #[.pointer (some ⟨w.heap.size, 0, none⟩), .int .i64 0]) ∧ w' = w.alloc (.cells #[.int .i64 (cap : Int), .slice none 0 0, .slice none 0 0, .slice none 0 0, .slice none 0 0, .slice none 0 0, .slice none 0 0, .int .i64 0] 86) := by
  have h1 : ¬ (cap : Int) < 0 := by omega
  have h2 : ¬ 1099511627776 < (cap : Int) := by omega
  have h3 : ¬ 1099511627776 < cap := by omega
  go_enter Tryz.func23, Tryz.ntmps23
  go_wp2
  go_ret2
  exact ⟨rfl, rfl⟩
set_option maxRecDepth 100000 in
theorem rCopy_any {w : World} {r : Nat} {s : DSt} {R : Nat → Prop} (h : RAt w r s R) : Calls Tryz.prog 28 #[.pointer (some ⟨r, 0, none⟩)] w fun e w' => ∃ r', e = .returned (.pointer (some ⟨r', 0, none⟩)) ∧ w.heap.size ≤ r' ∧ RAt w' r' s R ∧ Below w.heap.size w w' := by
  have hkeep := fun (W : World) (hW : Below w.heap.size w W) => h.kept (O := fun _ => False) (Chg.of_below hW) (fun _ _ h => h) (fun h => h)
  obtain ⟨vst, vla, vna, vsu, vsp, vwr, e, h⟩ := h
  obtain ⟨a1, k1, rfl, _⟩ := h.stands.at_
  obtain ⟨a2, k2, rfl, _⟩ := h.lasts.at_
  obtain ⟨a3, k3, rfl, _⟩ := h.names.1.at_
  obtain ⟨a4, k4, rfl, _⟩ := h.sure.1.at_
  obtain ⟨a5, k5, rfl, _⟩ := ownsRow_cell h.steps.1
  obtain ⟨a6, k6, _, rfl, _⟩ := h.writes.row
  have hob := h.cells
  have c0 := cell_of_heap hob (i := 0) (by rfl)
  have c1 := cell_of_heap hob (i := 1) (by rfl)
  have c2 := cell_of_heap hob (i := 2) (by rfl)
  have c3 := cell_of_heap hob (i := 3) (by rfl)
  have c4 := cell_of_heap hob (i := 4) (by rfl)
  have c5 := cell_of_heap hob (i := 5) (by rfl)
  have c6 := cell_of_heap hob (i := 6) (by rfl)
  have c7 := cell_of_heap hob (i := 7) (by rfl)
  go_enter Tryz.func28, Tryz.ntmps28
  go_wp2
  have HK := Lib.hid hkeep
  clear hkeep
  go_ret
  have hb := below_alloc w (.cells #[.int .i64 (s.room : Int), .slice a1 s.files.length k1, .slice a2 s.files.length k2, .slice a3 s.names.length k3, .slice a4 s.sure.length k4, .slice a5 s.steps.length k5, .slice a6 s.writes.length k6, .int .i64 (s.done : Int)] 86)
  simp only [List.length_map] at h
  have h2 := h.kept (O := fun _ => False) (Chg.of_below hb) (fun _ _ h => h) (fun h => h)
  refine ⟨_, rfl, Nat.le_refl _, ⟨_, _, _, _, _, _, _, (?_ : RAtP _ w.heap.size s R (.slice a1 s.files.length k1) (.slice a2 s.files.length k2) (.slice a3 s.names.length k3) (.slice a4 s.sure.length k4) (.slice a5 s.steps.length k5) (.slice a6 s.writes.length k6) 86)⟩, hb⟩
  exact {
    cells := World.alloc_heap_new w _
    stands := h2.stands
    lasts := h2.lasts
    names := h2.names
    sure := h2.sure
    steps := h2.steps
    writes := h2.writes
    rOut := fun hR => by have := h.rLt _ hR; omega
    rLt := h2.rLt }

end Go.Proofs.YtgckcnnnblggbaaGreat
