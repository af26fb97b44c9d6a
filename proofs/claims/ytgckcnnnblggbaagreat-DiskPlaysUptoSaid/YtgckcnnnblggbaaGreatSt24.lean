/- Texts of this claim, one behind the other: RdL. -/
import Derived.Test.YtgckcnnnblggbaaGreatSt23
set_option linter.unusedSimpArgs false
set_option linter.unusedVariables false
/- The document's disk: set. -/
namespace Go.Proofs.YtgckcnnnblggbaaGreat
open Go.RowKit Go.Maps

theorem Tryz.info124 : (Tryz.prog.info? 124).map (fun i => (i.zero, i.size, i.bytes)) = some (some (.agg #[.int .i64 0, .bool false, .int .i64 0, .slice none 0 0]), 4, 48) := by kernel_rfl
theorem BytesIn.one {w : World} {R : Nat → Prop} {v : Value} {l : List UInt8} (h : BytesIn w R v l) : v.oneCell' = true := by
  obtain ⟨a, c, rfl, _⟩ := h.row; rfl
theorem RowW.row {w : World} {R : Nat → Prop} {v : Value} {l : List Wr} (h : RowW w R v l) : ∃ a c us, v = .slice a l.length c ∧ (a = none → c = 0) ∧ us.length = l.length ∧ (((l.zip us).map encX).flatten).length = l.length * 4 ∧ RowAt w a ((l.zip us).map encX).flatten ∧ (∀ u ∈ ((l.zip us).map encX).flatten, u.oneCell' = true) ∧ (∀ (i : Nat) u x, us[i]? = some u → l[i]? = some x → BytesIn w R u x.data) := by
  obtain ⟨us, h0, h1, h2, _⟩ := h
  obtain ⟨a, c, rfl, _, h4, h5, h6⟩ := ownsRow_rowAt h1
  refine ⟨a, c, us, rfl, h4, h0, h6, h5, fun u hu => ?_, h2⟩
  obtain ⟨y, hy, hu⟩ := List.mem_flatten.1 hu
  obtain ⟨p, hp, rfl⟩ := List.mem_map.1 hy
  obtain ⟨i, hi, rfl⟩ := List.mem_iff_getElem.1 hp
  rw [List.length_zip] at hi
  rw [List.getElem_zip] at hu
  have hB := h2 i us[i] l[i] (by simp) (by simp)
  simp only [encX, List.mem_cons, List.not_mem_nil, or_false] at hu
  rcases hu with rfl | rfl | rfl | rfl
  · rfl
  · rfl
  · rfl
  · exact hB.one
theorem encX_len (l : List Wr) (us : List Value) (h : us.length = l.length) : (((l.zip us).map encX).flatten).length = l.length * 4 := by
  induction l generalizing us with
  | nil => rfl
  | cons x l ih =>
    cases us with
    | nil => cases h
    | cons u us =>
      simp only [List.length_cons, Nat.add_right_cancel_iff] at h
      simp only [List.zip_cons_cons, List.map_cons, List.flatten_cons, List.length_append, ih us h, List.length_cons, encX, List.length_nil]
      omega
theorem RowW.append {w w' : World} {O R R' : Nat → Prop} {lo : Nat} {v u : Value} {l : List Wr} {x : Wr} {us : List Value} (hb : ∀ (i : Nat) u x, us[i]? = some u → l[i]? = some x → BytesIn w R u x.data) (hl : us.length = l.length) (hu : BytesIn w R u x.data) (hc : Chg O w w') (hO : ∀ b, R b → ¬ O b)
    (h : w'.ownsRow lo 124 4 v (l.length + 1) (((l.zip us).map encX).flatten ++ encX (x, u))) (hR : ∀ b, R b → R' b) (hn : ∀ b, lo ≤ b → b < w'.heap.size → R' b) : RowW w' R' v (l ++ [x]) := by
  refine ⟨us ++ [u], by simp [hl], ?_, fun i y z hy hz => ?_, fun b hb => hn b (h.lt b hb).1 (h.lt b hb).2⟩
  · rw [List.zip_append hl.symm]
    simp only [List.length_append, List.length_singleton, List.zip_cons_cons, List.zip_nil_right, List.map_append, List.map_cons, List.map_nil, List.flatten_append, List.flatten_cons, List.flatten_nil, List.append_nil]
    exact ownsRow_base_le h (Nat.zero_le _)
  · rcases app_one hy hz hl with ⟨h1, h2⟩ | ⟨rfl, rfl⟩
    · exact (hb i _ _ h1 h2).kept hc hO hR
    · exact hu.kept hc hO hR
theorem RowB.put {w w' : World} {O R R' : Nat → Prop} {lo f : Nat} {v u : Value} {l : List (List UInt8)} {xs : List Value} {y : List UInt8} (hb : ∀ (i : Nat) x b, xs[i]? = some x → l[i]? = some b → BytesIn w R x b) (hu : BytesIn w' R' u y) (hc : Chg O w w') (hO : ∀ b, R b → ¬ O b) (h : w'.ownsRow lo 36 1 v l.length (xs.set f u)) (hR : ∀ b, R b → R' b) (hn : ∀ b, lo ≤ b → b < w'.heap.size → R' b) : RowB w' R' v (l.set f y) := by
  refine RowB.of_owns (by rw [List.length_set]; exact h) (fun i x b hx hy => ?_) hn
  rw [List.getElem?_set] at hx hy
  split at hx
  · rename_i hfi
    subst hfi
    rw [if_pos rfl] at hy
    split at hx
    · split at hy
      · cases hx; cases hy; exact hu
      · cases hy
    · cases hx
  · rename_i hfi
    rw [if_neg hfi] at hy
    exact (hb i x b hx hy).kept hc hO hR
theorem map_set_fst (l : List (List UInt8 × List UInt8)) (f : Nat) (p : List UInt8 × List UInt8) : (l.set f p).map (·.1) = (l.map (·.1)).set f p.1 := List.map_set ..
theorem map_set_snd {s : DSt} (f : Nat) (A : List UInt8) : (s.files.set f (A, s.lasts f)).map (·.2) = s.files.map (·.2) := by
  rw [List.map_set]
  apply List.ext_getElem?
  intro i
  rw [List.getElem?_set]
  split
  · rename_i h
    subst h
    rw [List.length_map]
    split
    · rename_i h
      simp only [DSt.lasts, List.getD_eq_getElem?_getD, List.getElem?_map, List.getElem?_eq_getElem h, Option.getD_some, Option.map_some]
    · rename_i h
      rw [List.getElem?_map, List.getElem?_eq_none (by omega)]; rfl
  · rfl
def DSt.setd (s : DSt) (x : Wr) : DSt := { s with files := s.files.set x.file (laid (s.stands x.file) x x.data.length, s.lasts x.file), writes := s.writes ++ [x] }

section
variable {w : World} {r : Nat} {s : DSt} {R : Nat → Prop} {N : Nat}
set_option maxRecDepth 100000 in
set_option maxHeartbeats 8000000 in
theorem rset_any (h : RAt w r s R) (hk : s.Ok N) (hN : N ≤ 4194304) {x : Wr} {vx : Value} (hx : WrArg w R vx x) (hxf : x.file < s.files.length) (hxl : x.place + x.data.length ≤ maxFile) :
    Calls Tryz.prog 83 #[.pointer (some ⟨r, 0, none⟩), vx] w fun e w' => e = .returned (.int .i64 0) ∧ RTurns w w' r (s.setd x) R := by
  have hmax : maxLen = 9223372036854775807 := rfl
  have hmf : maxFile = 1099511627776 := rfl
  obtain ⟨i0, hi, hz0, hz1, hz2⟩ := info_parts Tryz.info36
  obtain ⟨i1, hi1, hw0, hw1, hw2⟩ := info_parts Tryz.info124
  have h0 := h
  have hrl := h.r_lt
  obtain ⟨vst, vla, vna, vsu, vsp, vwr, e, h⟩ := h
  have hf := hk.manyFiles
  have hww := hk.manyWrites
  have hstl := hk.stands_le x.file
  obtain ⟨u, rfl, hu⟩ := hx
  obtain ⟨ua, uc, rfl, hu1, hu2, hurow⟩ := hu.row
  obtain ⟨W0, hW0⟩ : ∃ W0, w.alloc (.cells #[.int .i64 (x.file : Int), .bool x.cut, .int .i64 (x.place : Int), .slice ua x.data.length uc] 124) = W0 := ⟨_, rfl⟩
  have hbW : Below w.heap.size w W0 := by rw [← hW0]; exact below_alloc _ _
  have hbox : W0.heap[w.heap.size]? = some (.cells #[.int .i64 (x.file : Int), .bool x.cut, .int .i64 (x.place : Int), .slice ua x.data.length uc] 124 (0, 0)) := by rw [← hW0]; exact World.alloc_heap_new w _
  have hsz0 : W0.heap.size = w.heap.size + 1 := by rw [← hW0]; simp
  have hRl := h.rLt
  have hkW := h.kept (O := fun _ => False) (Chg.of_below hbW) (fun _ _ h => h) (fun h => h)
  have hu0 := hu.kept (O := fun _ => False) (R' := R) (Chg.of_below hbW) (fun _ _ h => h) (fun _ h => h)
  have hob0 := hkW.cells
  have hstand := hkW.stands
  obtain ⟨sa, sc, sxs, rfl, hs0, hs2, hs3, hs4, hs5, hs6⟩ := hstand.row
  simp only [List.length_map] at *
  have d1 := cell_of_heap hob0 (i := 1) (v := .slice sa s.files.length sc) (by rfl)
  have HS6 := Lib.hid hs6
  have hne : ¬ w.heap.size = r := by omega
  clear hs6
  go_enter Tryz.func83, Tryz.ntmps83
  go_wp2_with (first | rw [hW0] | (at_builtin; refine wpList_append_any _ rfl (.const (.slice none 0 0)) (.tmp 9) 81 rfl W0.heap.size 36 i0 (.slice none 0 0) 24 Tryz.underlying81 hi hz0 hz1 hz2 rfl _ 0 [] rfl (World.ownsRow_nil _ _ _ _) sa s.files.length sc sxs rfl hs3 hs2 hs4 hs5 (by omega) (by omega) (Nat.le_refl _) ?_; intro v1 w1 hv1 hg1; rw [Nat.zero_add, List.nil_append] at hv1; have hc1 : Chg (fun _ => False) W0 w1 := Chg.of_grown hg1 (fun k e => by cases e); have hzs1 := hc1.size))
  obtain ⟨su, hsu⟩ : ∃ su, sxs[x.file]? = some su := ⟨sxs[x.file]'(by omega), by simp⟩
  have hsb : BytesIn W0 R su (s.stands x.file) := HS6.out x.file su (s.stands x.file) hsu (by
    unfold DSt.stands
    rw [List.getD_eq_getElem?_getD, List.getElem?_map, List.getElem?_eq_getElem hxf]; rfl)
  obtain ⟨sua, suc, rfl, _⟩ := hsb.row
  obtain ⟨a1, c1, rfl, _, _, hat1⟩ := ownsRow_cell hv1
  obtain ⟨g, rfl, cf1⟩ := hat1 x.file _ hsu
  have hgl := hv1.lt g rfl
  have hob1 := hc1.obj hob0 (fun h => h)
  have hbox1 := hc1.obj hbox (fun h => h)
  have b0 := cell_of_heap hbox1 (i := 0) (v := .int .i64 (x.file : Int)) (by rfl)
  have b1 := cell_of_heap hbox1 (i := 1) (v := .bool x.cut) (by rfl)
  have b2 := cell_of_heap hbox1 (i := 2) (v := .int .i64 (x.place : Int)) (by rfl)
  have b3 := cell_of_heap hbox1 (i := 3) (v := .slice ua x.data.length uc) (by rfl)
  have hL := fun (W : World) (hW : Below w1.heap.size w1 W) => rLaid_any (R := R) (n := x.data.length) (hsb.kept (O := fun _ => False) (R' := R) (hc1.trans (Chg.of_below (O := fun _ => False) hW) (fun _ h _ => h)) (fun _ _ h => h) (fun _ h => h)) (vx := .agg #[.int .i64 (x.file : Int), .bool x.cut, .int .i64 (x.place : Int), .slice ua x.data.length uc]) ⟨_, rfl, hu0.kept (O := fun _ => False) (R' := R) (hc1.trans (Chg.of_below (O := fun _ => False) hW) (fun _ h _ => h)) (fun _ _ h => h) (fun _ h => h)⟩ (Nat.le_refl _) hstl hxl
  have j1 : (0 : Int) ≤ (x.file : Int) := by omega
  have j2 : (x.file : Int) < (s.files.length : Int) := by omega
  clear hat1
  have hS0 := And.intro b0 (And.intro b1 (And.intro b2 b3))
  refine wp_region_held_drew (S := fun w' => w'.cell? ⟨w.heap.size, 0, none⟩ = some (.int .i64 (x.file : Int)) ∧ w'.cell? ⟨w.heap.size, 1, none⟩ = some (.bool x.cut) ∧ w'.cell? ⟨w.heap.size, 2, none⟩ = some (.int .i64 (x.place : Int)) ∧ w'.cell? ⟨w.heap.size, 3, none⟩ = some (.slice ua x.data.length uc)) (by kernel_rfl) hS0 (fun hHeld => ?_)
  refine wpAnyH_take (i := 0) (v := ?_) rfl (by kernel_rfl) (by kernel_rfl) (by kernel_rfl) (fun _ _ _ h => h) (Or.inl ⟨by rfl, ?_⟩) hHeld ?_
  rotate_left
  · intro w hSw; (try dsimp only at hSw); go_simp
    all_goals (with_reducible rfl)
  (try simp only [Act.put, List.setIfInBounds_toArray, List.set_cons_zero, List.set_cons_succ])
  refine wpAnyH_take (i := 1) (v := ?_) rfl (by kernel_rfl) (by kernel_rfl) (by kernel_rfl) (fun _ _ _ h => h) (Or.inl ⟨by rfl, ?_⟩) hHeld ?_
  rotate_left
  · intro w hSw; (try dsimp only at hSw); go_simp
    all_goals (with_reducible rfl)
  (try simp only [Act.put, List.setIfInBounds_toArray, List.set_cons_zero, List.set_cons_succ])
  refine wpAnyH_take (i := 2) (v := ?_) rfl (by kernel_rfl) (by kernel_rfl) (by kernel_rfl) (fun _ _ _ h => h) (Or.inl ⟨by rfl, ?_⟩) hHeld ?_
  rotate_left
  · intro w hSw; (try dsimp only at hSw); go_simp
    all_goals (with_reducible rfl)
  (try simp only [Act.put, List.setIfInBounds_toArray, List.set_cons_zero, List.set_cons_succ])
  refine wpAnyH_take (i := 3) (v := ?_) rfl (by kernel_rfl) (by kernel_rfl) (by kernel_rfl) (fun _ _ _ h => h) (Or.inl ⟨by rfl, ?_⟩) hHeld ?_
  rotate_left
  · intro w hSw; (try dsimp only at hSw); go_simp
    all_goals (with_reducible rfl)
  (try simp only [Act.put, List.setIfInBounds_toArray, List.set_cons_zero, List.set_cons_succ])
  refine wpAnyH_take (i := 4) (v := ?_) rfl (by kernel_rfl) (by kernel_rfl) (by kernel_rfl) (fun _ _ _ h => h) (Or.inl ⟨by rfl, ?_⟩) hHeld ?_
  rotate_left
  · intro w hSw; (try dsimp only at hSw); go_simp
    all_goals (with_reducible rfl)
  (try simp only [Act.put, List.setIfInBounds_toArray, List.set_cons_zero, List.set_cons_succ])
  refine wpAnyH_take (i := 5) (v := ?_) rfl (by kernel_rfl) (by kernel_rfl) (by kernel_rfl) (fun _ _ _ h => h) (Or.inl ⟨by rfl, ?_⟩) hHeld ?_
  rotate_left
  · intro w hSw; (try dsimp only at hSw); go_simp
    all_goals (with_reducible rfl)
  (try simp only [Act.put, List.setIfInBounds_toArray, List.set_cons_zero, List.set_cons_succ])
  refine wpAnyH_take (i := 6) (v := ?_) rfl (by kernel_rfl) (by kernel_rfl) (by kernel_rfl) (fun _ _ _ h => h) (Or.inl ⟨by rfl, ?_⟩) hHeld ?_
  rotate_left
  · intro w hSw; (try dsimp only at hSw); go_simp
    all_goals (with_reducible rfl)
  (try simp only [Act.put, List.setIfInBounds_toArray, List.set_cons_zero, List.set_cons_succ])
  refine wpAnyH_take (i := 8) (v := ?_) rfl (by kernel_rfl) (by kernel_rfl) (by kernel_rfl) (fun _ _ _ h => h) (Or.inl ⟨by rfl, ?_⟩) hHeld ?_
  rotate_left
  · intro w hSw; (try dsimp only at hSw); go_simp
    all_goals (with_reducible rfl)
  (try simp only [Act.put, List.setIfInBounds_toArray, List.set_cons_zero, List.set_cons_succ])
  refine wpAnyH_take (i := 9) (v := ?_) rfl (by kernel_rfl) (by kernel_rfl) (by kernel_rfl) (fun _ _ _ h => h) (Or.inl ⟨by rfl, ?_⟩) hHeld ?_
  rotate_left
  · intro w hSw; (try dsimp only at hSw); go_simp
    all_goals (with_reducible rfl)
  (try simp only [Act.put, List.setIfInBounds_toArray, List.set_cons_zero, List.set_cons_succ])
  refine wpAnyH_take (i := 10) (v := ?_) rfl (by kernel_rfl) (by kernel_rfl) (by kernel_rfl) (fun _ _ _ h => h) (Or.inl ⟨by rfl, ?_⟩) hHeld ?_
  rotate_left
  · intro w hSw; (try dsimp only at hSw); go_simp
    all_goals (with_reducible rfl)
  (try simp only [Act.put, List.setIfInBounds_toArray, List.set_cons_zero, List.set_cons_succ])
  refine wpAnyH_take (i := 11) (v := ?_) rfl (by kernel_rfl) (by kernel_rfl) (by kernel_rfl) (fun _ _ _ h => h) (Or.inl ⟨by rfl, ?_⟩) hHeld ?_
  rotate_left
  · intro w hSw; (try dsimp only at hSw); go_simp
    all_goals (with_reducible rfl)
  (try simp only [Act.put, List.setIfInBounds_toArray, List.set_cons_zero, List.set_cons_succ])
  refine wpAnyH_ready (rs := [7]) (by kernel_rfl) (by simp) ?_
  refine AllReadyH.cons rfl (fun K hK => ?_) AllReadyH.nil
  go_simp
  refine hK.out _ _ (hHeld) (fun hHeld => ?_)
  clear hK K
  (try simp only [Act.put, List.setIfInBounds_toArray, List.set_cons_zero, List.set_cons_succ])
  refine wpAnyH_ready (rs := [12]) (by kernel_rfl) (by simp) ?_
  refine AllReadyH.cons rfl (fun K hK => ?_) AllReadyH.nil
  go_simp
  go_wp2_with (first | (go_at_call 61; refine (hL _ (Below.refl _ _).drew).mono ?_; rintro _ w2 ⟨u2, rfl, hu2', hb2⟩; replace hb2 : Below w1.heap.size w1 w2 := ⟨hb2.os, hb2.tape, hb2.output, hb2.size, hb2.block⟩; replace hu2' : BytesIn w2 (fun k => R k ∨ NewIn w1 w2 k) u2 (laid (s.stands x.file) x x.data.length) := hu2'; obtain ⟨la2, lc2, rfl, _⟩ := hu2'.row))
  have hv2 := (Chg.of_below (O := fun _ => False) hb2).row hv1 (fun _ _ h => h)
  have kb0 := (Chg.of_below (O := fun _ => False) hb2).cell b0 (fun h => h)
  have kb1 := (Chg.of_below (O := fun _ => False) hb2).cell b1 (fun h => h)
  have kb2 := (Chg.of_below (O := fun _ => False) hb2).cell b2 (fun h => h)
  have kb3 := (Chg.of_below (O := fun _ => False) hb2).cell b3 (fun h => h)
  obtain ⟨⟨u00, m0⟩, mz0, hset⟩ := ownsRow_set hv2 (g := g) rfl x.file (by omega) (.slice la2 (laid (s.stands x.file) x x.data.length).length lc2)
  have hc23 : Chg (· = g) w2 (w2.setCell ⟨g, x.file, none⟩ (.slice la2 (laid (s.stands x.file) x x.data.length).length lc2)) := Chg.set _ rfl
  obtain ⟨w3, hw3⟩ : ∃ w3, w2.setCell ⟨g, x.file, none⟩ (.slice la2 (laid (s.stands x.file) x x.data.length).length lc2) = w3 := ⟨_, rfl⟩
  rw [hw3] at hset hc23
  refine hK.out _ _ (⟨kb0, kb1, kb2, kb3⟩) (fun hHeld => ?_)
  clear hK K
  (try simp only [Act.put, List.setIfInBounds_toArray, List.set_cons_zero, List.set_cons_succ])
  refine wpAnyH_take (i := 13) (v := ?_) rfl (by kernel_rfl) (by kernel_rfl) (by kernel_rfl) (fun _ _ _ h => h) (Or.inl ⟨by rfl, ?_⟩) hHeld ?_
  rotate_left
  · intro w hSw; (try dsimp only at hSw); go_simp
    all_goals (with_reducible rfl)
  (try simp only [Act.put, List.setIfInBounds_toArray, List.set_cons_zero, List.set_cons_succ])
  refine wpAnyH_ready (rs := [14]) (by kernel_rfl) (by simp) ?_
  refine AllReadyH.cons rfl (fun K hK => ?_) AllReadyH.nil
  go_simp
  refine hK.out _ _ (⟨hc23.cell kb0 (by show ¬ w.heap.size = g; omega), hc23.cell kb1 (by show ¬ w.heap.size = g; omega), hc23.cell kb2 (by show ¬ w.heap.size = g; omega), hc23.cell kb3 (by show ¬ w.heap.size = g; omega)⟩) (fun hHeld => ?_)
  clear hK K
  (try simp only [Act.put, List.setIfInBounds_toArray, List.set_cons_zero, List.set_cons_succ])
  refine wpAnyH_done (by kernel_rfl) ?_ _
  have hc13 : Chg (· = g) w1 w3 := (Chg.of_below (O := (· = g)) hb2).trans hc23 (fun _ h _ => h)
  have hc03 : Chg (fun _ => False) W0 w3 := hc1.trans hc13 (fun b h hlt => by have := hgl.1; subst h; omega)
  have hzs3 := hc03.size
  have hob3 := hc03.obj hob0 (fun h => h)
  have hbox3 := hc03.obj hbox (fun h => h)
  have d31 := cell_of_heap hob3 (i := 1) (v := .slice sa s.files.length sc) (by rfl)
  have z31 := frozen_of_heap (i := 1) hob3
  have hc34 : Chg (· = r) w3 (w3.setCell ⟨r, 1, none⟩ (.slice (some ⟨g, 0, none⟩) s.files.length c1)) := Chg.set _ rfl
  have hob4 := heap_set_cells (i := 1) (.slice (some ⟨g, 0, none⟩) s.files.length c1) hob3
  obtain ⟨w4, hw4⟩ : ∃ w4, w3.setCell ⟨r, 1, none⟩ (.slice (some ⟨g, 0, none⟩) s.files.length c1) = w4 := ⟨_, rfl⟩
  rw [hw4] at hc34 hob4
  have hc04 : Chg (· = r) W0 w4 := (hc03.mono (O' := (· = r)) (fun _ h _ => h.elim)).trans hc34 (fun _ h _ => h)
  have hOr : ∀ b, R b → ¬ b = r := fun b hb e => h.rOut (e ▸ hb)
  obtain ⟨wa, wc, wus, rfl, hp2, hp3, hp4, hp5, hp6, hp7⟩ := (hkW.writes.kept (R' := R) hc04 hOr (fun _ h => h)).row
  have hzs4 := hc04.size
  have hbox4 := hc04.obj hbox hne
  have y0 := cell_of_heap hbox4 (i := 0) (v := .int .i64 (x.file : Int)) (by rfl)
  have y1 := cell_of_heap hbox4 (i := 1) (v := .bool x.cut) (by rfl)
  have y2 := cell_of_heap hbox4 (i := 2) (v := .int .i64 (x.place : Int)) (by rfl)
  have y3 := cell_of_heap hbox4 (i := 3) (v := .slice ua x.data.length uc) (by rfl)
  have c6 := cell_of_heap hob4 (i := 6) (v := .slice wa s.writes.length wc) (by rfl)
  have z6 := frozen_of_heap (i := 6) hob4
  clear cf1 b0 b1 b2 b3 kb0 kb1 kb2 kb3 m0 mz0 hHeld hS0 hL j1 j2 d1
  go_wp2_with (first | rw [hw4])
  have c6a := (Chg.alloc (fun _ => False) w4 (.cells #[.int .i64 (x.file : Int), .bool x.cut, .int .i64 (x.place : Int), .slice ua x.data.length uc] 124)).drew.cell c6 (fun h => h)
  have hrl4 : r < w4.heap.size := heap_lt hob4
  have hwl : w.heap.size < w4.heap.size := heap_lt hbox4
  have hx1 : ∀ v ∈ [Value.int .i64 (x.file : Int), .bool x.cut, .int .i64 (x.place : Int), .slice ua x.data.length uc], v.oneCell' = true := by simp [Value.oneCell']
  obtain ⟨cs4, hcs4⟩ : ∃ cs4 : Array Value, (#[.int .i64 (s.room : Int), .slice sa s.files.length sc, vla, vna, vsu, vsp, .slice wa s.writes.length wc, .int .i64 (s.done : Int)] : Array Value).setIfInBounds 1 (.slice (some ⟨g, 0, none⟩) s.files.length c1) = cs4 := ⟨_, rfl⟩
  rw [hcs4] at hob4
  have q6 : cs4[6]? = some (.slice wa s.writes.length wc) := by rw [← hcs4]; rfl
  have NEW := Lib.hid (And.intro hu2' (And.intro hset (And.intro hc13 (And.intro hc34 (And.intro hc04 (And.intro hv1 (And.intro hsb (And.intro hp7 (And.intro hOr (And.intro hc23 hu))))))))))
  clear hu2' hset hc13 hc34 hc04 hv1 hsb hp7 hOr hbox3 hob3 hob1 hbox1 hbox hob0 d31 z31 hc03 hc23 hv2 hw3 hw4 hW0 hs4 hs5 hurow hu0 hstand hu hc1
  go_region_law (first | (refine wp_append_anyK (.const (.slice none 0 0)) (.tmp 33) 84 rfl w4.heap.size 124 i1 _ 4 48 Tryz.underlying84 hi1 hw0 hw1 hw2 rfl (by decide) (.slice none 0 0) 0 [] rfl (World.ownsRow_nil _ _ _ _) _ s.writes.length wc _ rfl hp4 hp2 (by first | exact hp5.below ((Below.refl _ _).drew) | exact hp5.below (((Below.refl _ _).drew).alloc (Nat.le_refl _) _)) hp6 (by omega) (by omega) (by first | exact Nat.le_refl _ | simp) ?_; intro v5 w5 hv5 hg5; rw [Nat.zero_add, List.nil_append] at hv5; have hg5c : Chg (fun _ => False) _ w5 := Chg.of_grown hg5 (fun k e => by cases e); have hzs5 : w4.heap.size ≤ w5.heap.size := (by first | exact hg5c.size | exact Nat.le_trans (by simp) hg5c.size); have hob5 : w5.heap[r]? = some (.cells cs4 e (0, 0)) := (by first | exact hg5c.obj hob4 (fun h => h) | exact hg5c.obj ((Chg.alloc (fun _ => False) _ _).obj hob4 (fun h => h)) (fun h => h)); have hbox5 : w5.heap[w.heap.size]? = some (.cells #[.int .i64 (x.file : Int), .bool x.cut, .int .i64 (x.place : Int), .slice ua x.data.length uc] 124 (0, 0)) := (by first | exact hg5c.obj hbox4 (fun h => h) | exact hg5c.obj ((Chg.alloc (fun _ => False) _ _).obj hbox4 (fun h => h)) (fun h => h)); have t0 := cell_of_heap hbox5 (i := 0) (v := .int .i64 (x.file : Int)) (by rfl); have t1 := cell_of_heap hbox5 (i := 1) (v := .bool x.cut) (by rfl); have t2 := cell_of_heap hbox5 (i := 2) (v := .int .i64 (x.place : Int)) (by rfl); have t3 := cell_of_heap hbox5 (i := 3) (v := .slice ua x.data.length uc) (by rfl)) | (refine wp_append_anyK (.tmp 34) (.tmp 36) 84 rfl w4.heap.size 124 i1 _ 4 48 Tryz.underlying84 hi1 hw0 hw1 hw2 rfl (by decide) v5 s.writes.length _ rfl (by first | exact hv5 | exact World.ownsRow.alloc hv5 _) _ 1 1 [.int .i64 (x.file : Int), .bool x.cut, .int .i64 (x.place : Int), .slice ua x.data.length uc] rfl rfl (fun h => by cases h) (by first | exact RowAt.of_row (fun j u hu => cell_new _ _ _ j u (by simpa using hu)) | exact RowAt.of_row (fun j u hu => hg5c.cell (cell_new w4 #[.int .i64 (x.file : Int), .bool x.cut, .int .i64 (x.place : Int), .slice ua x.data.length uc] 124 j u (by simpa using hu)) (fun h => h))) hx1 (by omega) (by omega) (by first | exact hzs5 | (rw [World.size_alloc]; omega)) ?_; intro v6 w6 hv6 hg6; have hg6c : Chg (fun b => w4.heap.size ≤ b) _ w6 := Chg.of_grown hg6 (fun k e _ => (hv5.lt k e).1); have hob6 : w6.heap[r]? = some (.cells cs4 e (0, 0)) := (by first | exact hg6c.obj hob5 (show ¬ (w4.heap.size ≤ r) by omega) | exact hg6c.obj ((Chg.alloc (fun _ => False) _ _).obj hob5 (fun h => h)) (show ¬ (w4.heap.size ≤ r) by omega)); have m6 := cell_of_heap hob6 q6; have mz6 := frozen_of_heap (i := 6) hob6; obtain ⟨a6, c6', rfl, _⟩ := ownsRow_rowAt hv6))
  all_goals
    go_wp2
    go_ret
    refine ⟨rfl, ?_⟩
    have hc46 : Chg (fun _ => False) w4 w6 := (by first | exact (((Chg.refl (fun _ => False) w4).drew.trans hg5c (fun _ h _ => h)).trans (Chg.alloc (fun _ => False) _ _) (fun _ h _ => h)).trans hg6c (fun b h1 h2 => by omega) | exact ((Chg.alloc (fun _ => False) w4 _).drew.trans hg5c (fun _ h _ => h)).trans hg6c (fun b h1 h2 => by omega))
    obtain ⟨hu2', hset, hc13, hc34, hc04, hv1, hsb, hp7, hOr, hc23, hu⟩ := NEW.out
    have hcell7 := heap_set_cells (i := 6) (.slice a6 (s.writes.length + 1) c6') hob6
    have hc67 : Chg (· = r) w6 (w6.setCell ⟨r, 6, none⟩ (.slice a6 (s.writes.length + 1) c6')) := Chg.set _ rfl
    generalize w6.setCell ⟨r, 6, none⟩ (.slice a6 (s.writes.length + 1) c6') = w7 at *
    have hc47 : Chg (· = r) w4 w7 := (hc46.mono (O' := (· = r)) (fun _ h _ => h.elim)).trans hc67 (fun _ h _ => h)
    have hc37 : Chg (· = r) w3 w7 := hc34.trans hc47 (fun _ h _ => h)
    have hc07 : Chg (· = r) W0 w7 := hc04.trans hc47 (fun _ h _ => h)
    have hcW : Chg (· = r) w w7 := (Chg.of_below (O := (· = r)) hbW).trans hc07 (fun _ h _ => h)
    have hcW4 : Chg (· = r) w w4 := (Chg.of_below (O := (· = r)) hbW).trans hc04 (fun _ h _ => h)
    have hm := rmore_ok (w := w) (w' := w7) (r := r) hrl h.rLt h.rOut hcW.size
    have hRM : ∀ b, R b → RMore R w w7 b := fun b hb => .inl hb
    have s12 := hb2.size
    have s23 := hc23.size
    have s37 := hc37.size
    have s47 := hc47.size
    have s67 := hc67.size
    have s46 := hc46.size
    have hg1 := hgl.1
    have hg2 := hgl.2
    have hgr : ¬ g = r := by omega
    refine ⟨⟨_, _, _, _, _, _, e, (?_ : RAtP w7 r (s.setd x) (RMore R w w7) (.slice (some ⟨g, 0, none⟩) s.files.length c1) vla vna vsu vsp (.slice a6 (s.writes.length + 1) c6') e)⟩, hcW⟩
    exact {
      cells := by rw [← hcs4] at hcell7; exact hcell7
      stands := by
        have hu3 := hu2'.kept (R' := fun k => R k ∨ NewIn w1 w2 k) hc23 (fun b hb e => by
          rcases hb with hb | hb
          · have := hRl b hb; omega
          · have := hb.1; omega) (fun _ h => h)
        have hu7 := hu3.kept (R' := RMore R w w7) hc37 (fun b hb e => by
          rcases hb with hb | hb
          · exact hOr b hb e
          · have := hb.1; omega) (fun b hb => by
          rcases hb with hb | hb
          · exact .inl hb
          · exact .inr ⟨by have := hb.1; omega, by have := hb.2; omega⟩)
        have h7 := hc37.row hset (fun b hb e => by cases hb; exact hgr e)
        show RowB w7 _ _ ((s.files.set x.file (laid (s.stands x.file) x x.data.length, s.lasts x.file)).map (·.1))
        rw [map_set_fst]
        exact RowB.put (l := s.files.map (·.1)) HS6.out hu7 hc07 hOr (by rw [List.length_map]; exact h7) hRM (fun b h1 h2 => .inr ⟨by omega, h2⟩)
      lasts := by
        show RowB w7 _ _ ((s.files.set x.file (laid (s.stands x.file) x x.data.length, s.lasts x.file)).map (·.2))
        rw [map_set_snd]
        exact h.lasts.kept hcW hOr hRM
      names := h.names.kept hcW hOr hRM
      sure := h.sure.kept hcW hOr hRM
      steps := h.steps.kept hcW hOr hRM
      writes := by
        have h7 := hc67.row hv6 (fun b hb e => by have := (hv6.lt b hb).1; omega)
        have hu4 := hu.kept (R' := R) hcW4 hOr (fun _ h => h)
        exact RowW.append hp7 hp3 hu4 hc47 hOr h7 hRM (fun b h1 h2 => .inr ⟨by omega, h2⟩)
      rOut := hm.1
      rLt := hm.2 }
end

end Go.Proofs.YtgckcnnnblggbaaGreat
