/- Texts of this claim, one behind the other: RdG, RdH. -/
import Derived.Test.YtgckcnnnblggbaaGreatSt21
import Derived.Deep.RegionLaw
import Derived.Test.YtgckcnnnblggbaaGreatSt18
import Derived.BigQuiet
set_option linter.unusedSimpArgs false
set_option linter.unusedVariables false
/- The document's disk: a step of the names. -/
namespace Go.Proofs.YtgckcnnnblggbaaGreat
open Go.RowKit Go.Maps

/-- append onto a row of the call's own, at a step of a region that draws its order -/
theorem wp_append_anyK {P : Program} {w : World} {o : Oper} {a : Act} {K : Act → World → Prop} {Q : Exit → Act → World → Prop} (s x : Operand) (t : TypeId)
    (ho : o.op = .call { callee := .builtin .append, args := #[s, x], argTypes := #[t, t] })
    (base : Nat) (e : TypeId) (i : TypeInfo) (z : Value) (size bytes : Nat) (ht : P.underlying t = some (.slice e)) (hi : P.info? e = some i) (hz : i.zero = some z)
    (hsize : i.size = size) (hby : i.bytes = bytes) (hzs : z.cells.size = size) (hsz : 0 < size)
    (v : Value) (n : Nat) (xs : List Value) (hs : a.eval s = v) (hown : w.ownsRow base e size v n xs)
    (sa : Option Addr) (m c : Nat) (news : List Value) (hx : a.eval x = .slice sa m c) (hl : news.length = m * size) (hnil : sa = none → c = 0) (hnews : RowAt w sa news) (h1 : ∀ u ∈ news, u.oneCell' = true)
    (h63 : n + m ≤ maxLen) (hbytes : (n + m) * bytes ≤ 140737488355328) (hbase : base ≤ w.heap.size)
    (h : ∀ v' w', w'.ownsRow base e size v' (n + m) (xs ++ news) → w.grownBy w' v.ownBlock → K (a.put o.dst v') w') : o.wp P a w K Q := by
  cases sa with
  | none =>
    have hn : news = [] := by
      by_cases hne : news = []
      · exact hne
      · obtain ⟨b, off, e, _⟩ := hnews hne; cases e
    subst hn
    obtain rfl : m = 0 := by
      rcases Nat.mul_eq_zero.1 hl.symm with h | h
      · exact h
      · omega
    obtain rfl : c = 0 := hnil rfl
    have hrun := run_append_owned_none (P := P) (w := w) base t o.type e i size ht hi v n xs hown
    unfold Oper.wp
    simp [execOp, ho, resolve, invoke, builtin, hs, hx, hrun, Result.andThen]
    exact h v w (by simpa using hown) ⟨rfl, rfl, rfl, Nat.le_refl _, fun _ _ _ => rfl⟩
  | some ad =>
    refine wp_append_own w s x t ho base e i z size bytes ht hi hz hsize hby hzs hsz v n xs hs hown ad m c news hx hl ?_ h1 h63 hbytes hbase (fun v' w' h2 h3 _ => h v' w' h2 h3)
    intro j u hu
    have hne : news ≠ [] := by intro e; subst e; simp at hu
    obtain ⟨b, off, e, hc⟩ := hnews hne
    cases e
    have := hc j u hu
    rwa [show (⟨b, off, none⟩ : Addr).add j = ⟨b, off + j, none⟩ from by unfold Addr.add; split <;> simp_all]
/-- a row of the call's own, as a slice -/
theorem ownsRow_rowAt {w : World} {lo : Nat} {e : TypeId} {size : Nat} {v : Value} {n : Nat} {xs : List Value} (h : w.ownsRow lo e size v n xs) : ∃ a c, v = .slice a n c ∧ n ≤ c ∧ (a = none → c = 0) ∧ RowAt w a xs ∧ xs.length = n * size := by
  have hl := h.1
  rcases h.2 with ⟨rfl, hz⟩ | ⟨g, cap, cur, rfl, _, hg, h1, _, _, ht⟩
  · subst hz
    obtain rfl : xs = [] := by simpa using hl
    exact ⟨none, 0, rfl, Nat.le_refl _, fun _ => rfl, RowAt.nil _ _, hl⟩
  · refine ⟨_, cap, rfl, h1, (fun e => by cases e), fun _ => ⟨g, 0, rfl, fun j u hu => ?_⟩, hl⟩
    rw [Nat.zero_add]
    refine cell_of_heap hg ?_
    have : cur.toList[j]? = some u := by
      rw [← ht, List.getElem?_take] at hu
      split at hu
      · exact hu
      · cases hu
    simpa using this
theorem encS_len (x : NStep) : (encS x).length = 4 := by cases x <;> rfl
theorem encS_one (x : NStep) : ∀ u ∈ encS x, u.oneCell' = true := by
  intro u hu
  cases x <;> simp only [encS, List.mem_cons, List.not_mem_nil, or_false] at hu <;> rcases hu with rfl | rfl | rfl | rfl <;> rfl
theorem flatS_one (l : List NStep) : ∀ u ∈ (l.map encS).flatten, u.oneCell' = true := by
  intro u hu
  obtain ⟨c, hc, hu⟩ := List.mem_flatten.1 hu
  obtain ⟨x, _, rfl⟩ := List.mem_map.1 hc
  exact encS_one x u hu
theorem Tryz.info122 : (Tryz.prog.info? 122).map (fun i => (i.zero, i.size, i.bytes)) = some (some (.agg #[.int .i64 0, .string ⟨#[]⟩, .string ⟨#[]⟩, .int .i64 0]), 4, 48) := by kernel_rfl

theorem rnames_fin {w W0 w1 W2 w3 : World} {r : Nat} {s : DSt} {R : Nat → Prop} {vst vla vna vsu vsp vwr va vs : Value} {e : TypeId} {L : NL} {x : NStep} {cs2 : Array Value} {xs : List Value} (h : RAtP w r s R vst vla vna vsu vsp vwr e) (hbW : Below w.heap.size w W0) (hb1 : Below W0.heap.size W0 w1) (hW2 : w1.setCell ⟨r, 3, none⟩ va = W2) (hc : Chg (fun _ => False) W2 w3)
    (hob : w3.heap[r]? = some (.cells cs2 e (0, 0))) (hcs : (#[.int .i64 (s.room : Int), vst, vla, vna, vsu, vsp, vwr, .int .i64 (s.done : Int)] : Array Value).setIfInBounds 3 va = cs2) (hv1 : NamedIn w1 (fun b => R b ∨ NewIn W0 w1 b) va L)
    (hv3 : w3.ownsRow W2.heap.size 122 4 vs (s.steps.length + 1) ((s.steps.map encS).flatten ++ xs)) (hx : encS x = xs) : RTurns w (w3.setCell ⟨r, 5, none⟩ vs) r { s with names := L, steps := s.steps ++ [x] } R := by
  have hrl := heap_lt h.cells
  have hcell := heap_set_cells (i := 5) vs hob
  have hc3 : Chg (· = r) w3 (w3.setCell ⟨r, 5, none⟩ vs) := Chg.set _ rfl
  have hc12 : Chg (· = r) w1 W2 := by rw [← hW2]; exact Chg.set _ rfl
  generalize w3.setCell ⟨r, 5, none⟩ vs = w4 at *
  have hO : ∀ b, R b → ¬ b = r := fun b hb e => h.rOut (e ▸ hb)
  have hs0 := hbW.size
  have hs1 := hb1.size
  have hs2 := hc12.size
  have hs3 := hc.size
  have hs4 := hc3.size
  have hw02 : Chg (· = r) w W2 := ((Chg.of_below (O := (· = r)) hbW).trans (Chg.of_below (O := (· = r)) hb1) (fun _ h _ => h)).trans hc12 (fun _ h _ => h)
  have hw03 : Chg (· = r) w w3 := hw02.trans hc (fun _ h _ => h.elim)
  have hw04 : Chg (· = r) w w4 := hw03.trans hc3 (fun _ h _ => h)
  have hc24 : Chg (· = r) W2 w4 := (hc.mono (O' := (· = r)) (fun _ h _ => h.elim)).trans hc3 (fun _ h _ => h)
  have hR1 : ∀ b, R b ∨ NewIn W0 w1 b → ¬ b = r := fun b hb e => by
    rcases hb with hb | hb
    · exact hO b hb e
    · have := hb.1; omega
  have hRM : ∀ b, R b → RMore R w w4 b := fun b hb => .inl hb
  refine ⟨⟨vst, vla, va, vsu, vs, vwr, e, ?_⟩, hw04⟩
  exact {
    cells := by rw [← hcs] at hcell; exact hcell
    stands := h.stands.kept hw04 hO hRM
    lasts := h.lasts.kept hw04 hO hRM
    names := (hv1.kept (R' := RMore R w w4) hc12 hR1 (fun b hb => by
      rcases hb with hb | hb
      · exact .inl hb
      · exact .inr ⟨by have := hb.1; omega, by have := hb.2; omega⟩)).kept (O := (· = r)) hc24 (fun b hb e => by
      rcases hb with hb | hb
      · exact hO b hb e
      · have := hb.1; omega) (fun _ h => h)
    sure := h.sure.kept hw04 hO hRM
    steps := by
      refine ⟨?_, fun b hb => .inr ?_⟩
      · have := hc3.row hv3 (fun k hk e => by have := (hv3.lt k hk).1; omega)
        simp only [List.length_append, List.length_singleton, List.map_append, List.map_cons, List.map_nil, List.flatten_append, List.flatten_cons, List.flatten_nil, List.append_nil, hx]
        exact ownsRow_base_le this (Nat.zero_le _)
      · have := hv3.lt b hb
        exact ⟨by omega, by omega⟩
    writes := h.writes.kept hw04 hO hRM
    rOut := (rmore_ok hrl h.rLt h.rOut hw04.size).1
    rLt := (rmore_ok hrl h.rLt h.rOut hw04.size).2 }

set_option maxRecDepth 100000 in
set_option maxHeartbeats 4000000 in
theorem rnames_any {w : World} {r : Nat} {s : DSt} {R : Nat → Prop} (h : RAt w r s R) (hr : Rising s.names) (x : NStep) (hl : s.names.length ≤ 8388608) (hst : s.steps.length ≤ 8388608) :
    Calls Tryz.prog 76 #[.pointer (some ⟨r, 0, none⟩), .agg (encS x).toArray] w fun e w' => e = .returned (.int .i64 0) ∧ RTurns w w' r { s with names := doStep s.names x, steps := s.steps ++ [x] } R := by
  have hmax : maxLen = 9223372036854775807 := rfl
  obtain ⟨i0, hi, hz0, hz1, hz2⟩ := info_parts Tryz.info122
  obtain ⟨vst, vla, vna, vsu, vsp, vwr, e, h⟩ := h
  obtain ⟨x0, x1, x2, x3, hx⟩ : ∃ x0 x1 x2 x3, encS x = [x0, x1, x2, x3] := by cases x <;> exact ⟨_, _, _, _, rfl⟩
  have hx1 := encS_one x
  rw [hx] at hx1
  obtain ⟨W0, hW0⟩ : ∃ W0, w.alloc (.cells (encS x).toArray 122) = W0 := ⟨_, rfl⟩
  have hbW : Below w.heap.size w W0 := by rw [← hW0]; exact below_alloc _ _
  have hbox : W0.heap[w.heap.size]? = some (.cells (encS x).toArray 122 (0, 0)) := by rw [← hW0]; exact World.alloc_heap_new w _
  have hsz0 : W0.heap.size = w.heap.size + 1 := by rw [← hW0]; simp
  have hrl := heap_lt h.cells
  have h0 := h.kept (O := fun _ => False) (Chg.of_below hbW) (fun _ _ h => h) (fun h => h)
  have hdo := fun (W : World) (hW : Below W0.heap.size W0 W) => rdoes_any (R := R) (h0.names.kept (O := fun _ => False) (Chg.of_below hW) (fun _ _ h => h) (fun _ h => h)) hr x hl
  rw [hx] at hW0 hbox hdo ⊢
  have b0 := cell_of_heap hbox (i := 0) (v := x0) (by rfl)
  have b1 := cell_of_heap hbox (i := 1) (v := x1) (by rfl)
  have b2 := cell_of_heap hbox (i := 2) (v := x2) (by rfl)
  have b3 := cell_of_heap hbox (i := 3) (v := x3) (by rfl)
  have hob := h0.cells
  have c3 := cell_of_heap hob (i := 3) (v := vna) (by rfl)
  have z3 := frozen_of_heap (i := 3) hob
  obtain ⟨na, nc, rfl, _⟩ := h.names.1.at_
  obtain ⟨sa, sc, rfl, hs1, hs2, hsrow, hsl⟩ := ownsRow_rowAt h0.steps.1
  have hne : ¬ w.heap.size = r := by omega
  go_enter Tryz.func76, Tryz.ntmps76
  go_wp2_with (first | rw [hW0])
  go_region_with (first
    | (go_at_call 59; refine (hdo _ (by first | exact Below.refl _ _ | exact (Below.refl _ _).drew)).mono ?_; rintro _ w1 ⟨v1, rfl, hv1, hb1⟩; replace hb1 : Below W0.heap.size W0 w1 := ⟨hb1.os, hb1.tape, hb1.output, hb1.size, hb1.block⟩; replace hv1 : NamedIn w1 (fun b => R b ∨ NewIn W0 w1 b) v1 (doStep s.names x) := hv1; obtain ⟨va1, vc1, rfl, _⟩ := hv1.1.at_; have hob1 := (hb1.block r (by omega)).trans hob; have hbox1 := (hb1.block w.heap.size (by omega)).trans hbox; have k3 := cell_of_heap hob1 (i := 3) (v := .slice na s.names.length nc) (by rfl); have kz3 := frozen_of_heap (i := 3) hob1; have kb0 := cell_of_heap hbox1 (i := 0) (v := x0) (by rfl); have kb1 := cell_of_heap hbox1 (i := 1) (v := x1) (by rfl); have kb2 := cell_of_heap hbox1 (i := 2) (v := x2) (by rfl); have kb3 := cell_of_heap hbox1 (i := 3) (v := x3) (by rfl)))
  all_goals
    obtain ⟨W2, hW2⟩ : ∃ W2, w1.setCell ⟨r, 3, none⟩ (.slice va1 (doStep s.names x).length vc1) = W2 := ⟨_, rfl⟩
    rw [hW2]
    have hc02 : Chg (· = r) W0 W2 := (Chg.of_below hb1).trans (by rw [← hW2]; exact Chg.set _ rfl) (fun _ h _ => h)
    have hob2 := heap_set_cells (i := 3) (.slice va1 (doStep s.names x).length vc1) hob1
    rw [hW2] at hob2
    obtain ⟨cs2, hcs2⟩ : ∃ cs2 : Array Value, (#[.int .i64 (s.room : Int), vst, vla, .slice na s.names.length nc, vsu, .slice sa s.steps.length sc, vwr, .int .i64 (s.done : Int)] : Array Value).setIfInBounds 3 (.slice va1 (doStep s.names x).length vc1) = cs2 := ⟨_, rfl⟩
    rw [hcs2] at hob2
    have q5 : cs2[5]? = some (.slice sa s.steps.length sc) := by rw [← hcs2]; rfl
    have hbox2 := hc02.obj hbox hne
    have y0 := cell_of_heap hbox2 (i := 0) (v := x0) (by rfl)
    have y1 := cell_of_heap hbox2 (i := 1) (v := x1) (by rfl)
    have y2 := cell_of_heap hbox2 (i := 2) (v := x2) (by rfl)
    have y3 := cell_of_heap hbox2 (i := 3) (v := x3) (by rfl)
    have c5 := cell_of_heap hob2 q5
    have z5 := frozen_of_heap (i := 5) hob2
    have hOr : ∀ b, R b → ¬ b = r := fun b hb e => h.rOut (e ▸ hb)
    have hst2 := h0.steps.kept (R' := R) hc02 hOr (fun _ h => h)
    have hrow2 : RowAt W2 sa ((s.steps.map encS).flatten) := by
      obtain ⟨a', c', e', _, _, h', _⟩ := ownsRow_rowAt hst2.1
      simp only [Value.slice.injEq] at e'
      rw [e'.1]; exact h'
    have c5a := (Chg.alloc (fun _ => False) W2 (.cells #[x0, x1, x2, x3] 122)).drew.cell c5 (fun h => h)
    have hrl2 : r < W2.heap.size := heap_lt hob2
    clear c3 z3 k3 kz3 kb0 kb1 kb2 kb3 b0 b1 b2 b3 hbox1
    go_wp2
    go_region_law (first
      | (refine wp_append_anyK (.const (.slice none 0 0)) (.tmp 18) 83 rfl W2.heap.size 122 i0 _ 4 48 Tryz.underlying83 hi hz0 hz1 hz2 rfl (by decide) (.slice none 0 0) 0 [] rfl (World.ownsRow_nil _ _ _ _) _ s.steps.length sc _ rfl hsl hs2 (by first | exact hrow2.below ((Below.refl _ _).drew) | exact hrow2.below (((Below.refl _ _).drew).alloc (Nat.le_refl _) _)) (flatS_one _) (by omega) (by omega) (by first | exact Nat.le_refl _ | simp) ?_; intro v2 w2 hv2 hg2; rw [Nat.zero_add, List.nil_append] at hv2; have hg2c : Chg (fun _ => False) _ w2 := Chg.of_grown hg2 (fun k e => by cases e); have hsz2 : W2.heap.size ≤ w2.heap.size := (by first | exact hg2c.size | exact Nat.le_trans (by simp) hg2c.size); have hob3 : w2.heap[r]? = some (.cells cs2 e (0, 0)) := (by first | exact hg2c.obj hob2 (fun h => h) | exact hg2c.obj ((Chg.alloc (fun _ => False) _ _).obj hob2 (fun h => h)) (fun h => h)); have hbox3 : w2.heap[w.heap.size]? = some (.cells #[x0, x1, x2, x3] 122 (0, 0)) := (by first | exact hg2c.obj hbox2 (fun h => h) | exact hg2c.obj ((Chg.alloc (fun _ => False) _ _).obj hbox2 (fun h => h)) (fun h => h)); have t0 := cell_of_heap hbox3 (i := 0) (v := x0) (by rfl); have t1 := cell_of_heap hbox3 (i := 1) (v := x1) (by rfl); have t2 := cell_of_heap hbox3 (i := 2) (v := x2) (by rfl); have t3 := cell_of_heap hbox3 (i := 3) (v := x3) (by rfl))
      | (refine wp_append_anyK (.tmp 19) (.tmp 21) 83 rfl W2.heap.size 122 i0 _ 4 48 Tryz.underlying83 hi hz0 hz1 hz2 rfl (by decide) v2 s.steps.length _ rfl (by first | exact hv2 | exact World.ownsRow.alloc hv2 _) _ 1 1 [x0, x1, x2, x3] rfl rfl (fun h => by cases h) (by first | exact RowAt.of_row (fun j u hu => cell_new _ _ _ j u (by simpa using hu)) | exact RowAt.of_row (fun j u hu => hg2c.cell (cell_new W2 #[x0, x1, x2, x3] 122 j u (by simpa using hu)) (fun h => h))) hx1 (by omega) (by omega) (by first | exact hsz2 | (rw [World.size_alloc]; omega)) ?_; intro v3 w3 hv3 hg3; have hg3c : Chg (fun b => W2.heap.size ≤ b) _ w3 := Chg.of_grown hg3 (fun k e _ => (hv2.lt k e).1); have hob4 : w3.heap[r]? = some (.cells cs2 e (0, 0)) := (by first | exact hg3c.obj hob3 (show ¬ (W2.heap.size ≤ r) by omega) | exact hg3c.obj ((Chg.alloc (fun _ => False) _ _).obj hob3 (fun h => h)) (show ¬ (W2.heap.size ≤ r) by omega)); have m5 := cell_of_heap hob4 q5; have mz5 := frozen_of_heap (i := 5) hob4; obtain ⟨a3, c3, rfl, _⟩ := ownsRow_rowAt hv3))
    all_goals
      go_wp2
      go_ret
      refine ⟨rfl, ?_⟩
      exact rnames_fin h hbW hb1 hW2 (by first | exact (((Chg.refl (fun _ => False) W2).drew.trans hg2c (fun _ h _ => h)).trans (Chg.alloc (fun _ => False) _ _) (fun _ h _ => h)).trans hg3c (fun b h1 h2 => by omega) | exact ((Chg.alloc (fun _ => False) W2 _).drew.trans hg2c (fun _ h _ => h)).trans hg3c (fun b h1 h2 => by omega)) hob4 hcs2 hv1 hv3 hx

end Go.Proofs.YtgckcnnnblggbaaGreat
/- The document's disk: SyncNames, Size, Read, used, Left, Texts. -/
namespace Go.Proofs.YtgckcnnnblggbaaGreat
open Go.RowKit Go.Maps

/-- a cell of a row of the call's own -/
theorem ownsRow_cell {w : World} {lo : Nat} {e : TypeId} {size : Nat} {v : Value} {n : Nat} {xs : List Value} (h : w.ownsRow lo e size v n xs) : ∃ a c, v = .slice a n c ∧ n ≤ c ∧ (a = none → c = 0) ∧ ∀ (i : Nat) u, xs[i]? = some u → ∃ g, a = some ⟨g, 0, none⟩ ∧ w.cell? ⟨g, i, none⟩ = some u := by
  rcases h.2 with ⟨rfl, rfl⟩ | ⟨g, cap, cur, rfl, _, hg, h1, _, _, ht⟩
  · exact ⟨none, 0, rfl, Nat.le_refl _, fun _ => rfl, fun i u hu => by have := h.1; simp at this; subst this; simp at hu⟩
  · refine ⟨_, cap, rfl, h1, (fun e => by cases e), fun i u hu => ⟨g, rfl, cell_of_heap hg ?_⟩⟩
    have : cur.toList[i]? = some u := by
      rw [← ht, List.getElem?_take] at hu
      split at hu
      · exact hu
      · cases hu
    simpa using this
/-- the i-th bytes of a row that nobody writes -/
theorem RowB.at_ {w : World} {R : Nat → Prop} {v : Value} {l : List (List UInt8)} (h : RowB w R v l) : ∃ a c, v = .slice a l.length c ∧ l.length ≤ c ∧ (a = none → c = 0) ∧ ∀ (i : Nat) b, l[i]? = some b → ∃ g ua uc, a = some ⟨g, 0, none⟩ ∧ w.cell? ⟨g, i, none⟩ = some (.slice ua b.length uc) ∧ BytesIn w R (.slice ua b.length uc) b ∧ R g := by
  obtain ⟨xs, h1, h2, h3⟩ := h
  obtain ⟨a, c, rfl, hc1, hc2, hat⟩ := ownsRow_cell h1
  have hl : xs.length = l.length := by have := h1.1; omega
  refine ⟨a, c, rfl, hc1, hc2, fun i b hb => ?_⟩
  have hi := (List.getElem?_eq_some_iff.1 hb).1
  obtain ⟨x, hx⟩ : ∃ x, xs[i]? = some x := ⟨xs[i]'(by omega), by simp⟩
  obtain ⟨g, rfl, hcell⟩ := hat i x hx
  have hB := h2 i x b hx hb
  obtain ⟨ua, uc, rfl, _⟩ := hB.row
  exact ⟨g, ua, uc, rfl, hcell, hB, h3 g rfl⟩
theorem RAtP.stand {w : World} {r : Nat} {s : DSt} {R : Nat → Prop} {vst vla vna vsu vsp vwr : Value} {e : TypeId} (h : RAtP w r s R vst vla vna vsu vsp vwr e) : ∃ a c, vst = .slice a s.files.length c ∧ s.files.length ≤ c ∧ (a = none → c = 0) ∧ ∀ f, f < s.files.length → ∃ g ua uc, a = some ⟨g, 0, none⟩ ∧ w.cell? ⟨g, f, none⟩ = some (.slice ua (s.stands f).length uc) ∧ BytesIn w R (.slice ua (s.stands f).length uc) (s.stands f) ∧ R g := by
  obtain ⟨a, c, e, h1, h2, h3⟩ := h.stands.at_
  rw [List.length_map] at e h1
  refine ⟨a, c, e, h1, h2, fun f hf => h3 f _ ?_⟩
  unfold DSt.stands
  rw [List.getD_eq_getElem?_getD, List.getElem?_map, List.getElem?_eq_getElem hf]
  rfl
theorem RAtP.last {w : World} {r : Nat} {s : DSt} {R : Nat → Prop} {vst vla vna vsu vsp vwr : Value} {e : TypeId} (h : RAtP w r s R vst vla vna vsu vsp vwr e) : ∃ a c, vla = .slice a s.files.length c ∧ s.files.length ≤ c ∧ (a = none → c = 0) ∧ ∀ f, f < s.files.length → ∃ g ua uc, a = some ⟨g, 0, none⟩ ∧ w.cell? ⟨g, f, none⟩ = some (.slice ua (s.lasts f).length uc) ∧ BytesIn w R (.slice ua (s.lasts f).length uc) (s.lasts f) ∧ R g := by
  obtain ⟨a, c, e, h1, h2, h3⟩ := h.lasts.at_
  rw [List.length_map] at e h1
  refine ⟨a, c, e, h1, h2, fun f hf => h3 f _ ?_⟩
  unfold DSt.lasts
  rw [List.getD_eq_getElem?_getD, List.getElem?_map, List.getElem?_eq_getElem hf]
  rfl
/-- a step is counted -/
theorem RAtP.ticked {w : World} {r : Nat} {s : DSt} {R : Nat → Prop} {vst vla vna vsu vsp vwr : Value} {e : TypeId} (h : RAtP w r s R vst vla vna vsu vsp vwr e) : RAtP (w.setCell ⟨r, 7, none⟩ (.int .i64 ((s.done : Int) + 1))) r s.tick R vst vla vna vsu vsp vwr e := by
  have hc : Chg (· = r) w (w.setCell ⟨r, 7, none⟩ (.int .i64 ((s.done : Int) + 1))) := Chg.set _ rfl
  have hO : ∀ b, R b → ¬ b = r := fun b hb e => h.rOut (e ▸ hb)
  exact {
    cells := by have := heap_set_cells (i := 7) (.int .i64 ((s.done : Int) + 1)) h.cells; exact this
    stands := h.stands.kept hc hO (fun _ h => h)
    lasts := h.lasts.kept hc hO (fun _ h => h)
    names := h.names.kept hc hO (fun _ h => h)
    sure := h.sure.kept hc hO (fun _ h => h)
    steps := h.steps.kept hc hO (fun _ h => h)
    writes := h.writes.kept hc hO (fun _ h => h)
    rOut := h.rOut
    rLt := fun b hb => by have := h.rLt b hb; have := hc.size; omega }
theorem RAtP.more {w w' : World} {r : Nat} {s : DSt} {R R' : Nat → Prop} {vst vla vna vsu vsp vwr : Value} {e : TypeId} (h : RAtP w r s R vst vla vna vsu vsp vwr e) (hR : ∀ b, R b → R' b) (hr : ¬ R' r) (hl : ∀ b, R' b → b < w.heap.size) : RAtP w r s R' vst vla vna vsu vsp vwr e where
  cells := h.cells
  stands := h.stands.kept (Chg.refl (fun _ => False) _) (fun _ _ h => h) hR
  lasts := h.lasts.kept (Chg.refl (fun _ => False) _) (fun _ _ h => h) hR
  names := h.names.kept (Chg.refl (fun _ => False) _) (fun _ _ h => h) hR
  sure := h.sure.kept (Chg.refl (fun _ => False) _) (fun _ _ h => h) hR
  steps := h.steps.kept (Chg.refl (fun _ => False) _) (fun _ _ h => h) hR
  writes := h.writes.kept (Chg.refl (fun _ => False) _) (fun _ _ h => h) hR
  rOut := hr
  rLt := hl
/-- a step by its parts -/
theorem RTurns.of {w w' : World} {r : Nat} {s0 s' : DSt} {R : Nat → Prop} {vst vla vna vsu vsp vwr : Value} {e : TypeId} (h0 : RAt w r s0 R) (h : RAtP w' r s' R vst vla vna vsu vsp vwr e) (hc : Chg (· = r) w w') : RTurns w w' r s' R := by
  have hrl := h0.r_lt
  obtain ⟨_, _, _, _, _, _, _, h0⟩ := h0
  have hm := rmore_ok hrl h0.rLt h0.rOut hc.size
  exact ⟨⟨_, _, _, _, _, _, _, h.more (w' := w') (fun _ hb => .inl hb) hm.1 hm.2⟩, hc⟩
theorem RTurns.trans {w w1 w2 : World} {r : Nat} {s0 s1 s2 : DSt} {R : Nat → Prop} (h0 : RAt w r s0 R) (h1 : RTurns w w1 r s1 R) (h2 : RTurns w1 w2 r s2 (RMore R w w1)) : RTurns w w2 r s2 R := by
  have hrl := h0.r_lt
  obtain ⟨_, _, _, _, _, _, _, h0⟩ := h0
  have hc := h1.2.trans h2.2 (fun _ h _ => h)
  have hm := rmore_ok hrl h0.rLt h0.rOut hc.size
  obtain ⟨⟨_, _, _, _, _, _, _, h⟩, _⟩ := h2
  have hs1 := h1.2.size
  refine ⟨⟨_, _, _, _, _, _, _, h.more (w' := w2) (fun b hb => ?_) hm.1 hm.2⟩, hc⟩
  have hb2 := h.rLt b hb
  rcases hb with (hb | hb) | hb
  · exact .inl hb
  · exact .inr ⟨hb.1, hb2⟩
  · exact .inr ⟨by have := hb.1; omega, hb.2⟩

section
variable {w : World} {r : Nat} {s : DSt} {R : Nat → Prop} {N : Nat}
set_option maxRecDepth 100000 in
set_option maxHeartbeats 1000000 in
theorem rSyncNames_any (h : RAt w r s R) (hk : s.Ok N) (hN : N ≤ 4194304) :
    Calls Tryz.prog 46 #[.pointer (some ⟨r, 0, none⟩)] w fun e w' => e = .returned (.int .i64 ((s.syncNames).2 : Int)) ∧ RTurns w w' r (s.syncNames).1 R := by
  have h0 := h
  obtain ⟨vst, vla, vna, vsu, vsp, vwr, e, h⟩ := h
  have hd := hk.done
  have c7 := cell_of_heap h.cells (i := 7) (v := .int .i64 (s.done : Int)) (by rfl)
  have z7 := frozen_of_heap (i := 7) h.cells
  have e7 : IntKind.i64.wrap ((s.done : Int) + 1) = (s.done : Int) + 1 := Go.IntWalk.i64_in _ (by omega)
  obtain ⟨na, nc, rfl, _⟩ := h.names.1.at_
  have ht := h.ticked
  have hc1 : Chg (· = r) w (w.setCell ⟨r, 7, none⟩ (.int .i64 ((s.done : Int) + 1))) := Chg.set _ rfl
  obtain ⟨w1, hw1⟩ : ∃ w1, w.setCell ⟨r, 7, none⟩ (.int .i64 ((s.done : Int) + 1)) = w1 := ⟨_, rfl⟩
  rw [hw1] at ht hc1
  have c3 := cell_of_heap ht.cells (i := 3) (v := .slice na s.names.length nc) (by rfl)
  have z4 := frozen_of_heap (i := 4) ht.cells
  have c4 := cell_of_heap ht.cells (i := 4) (v := vsu) (by rfl)
  have hcell2 := heap_set_cells (i := 4) (.slice na s.names.length nc) ht.cells
  have hc2 : Chg (· = r) w1 (w1.setCell ⟨r, 4, none⟩ (.slice na s.names.length nc)) := Chg.set _ rfl
  obtain ⟨w2, hw2⟩ : ∃ w2, w1.setCell ⟨r, 4, none⟩ (.slice na s.names.length nc) = w2 := ⟨_, rfl⟩
  rw [hw2] at hcell2 hc2
  have z5 := frozen_of_heap (i := 5) hcell2
  have c5 := cell_of_heap hcell2 (i := 5) (v := vsp) (by rfl)
  go_enter Tryz.func46, Tryz.ntmps46
  go_wp2_with (first | rw [hw1] | rw [hw2])
  go_ret
  refine ⟨rfl, ?_⟩
  have hcell3 := heap_set_cells (i := 5) (.slice none 0 0) hcell2
  have hc3 : Chg (· = r) w2 (w2.setCell ⟨r, 5, none⟩ (.slice none 0 0)) := Chg.set _ rfl
  generalize w2.setCell ⟨r, 5, none⟩ (.slice none 0 0) = w3 at *
  have hc := (hc1.trans hc2 (fun _ h _ => h)).trans hc3 (fun _ h _ => h)
  have hO : ∀ b, R b → ¬ b = r := fun b hb e => h.rOut (e ▸ hb)
  refine RTurns.of h0 (vst := vst) (vla := vla) (vna := .slice na s.names.length nc) (vsu := .slice na s.names.length nc) (vsp := .slice none 0 0) (vwr := vwr) (e := e) ?_ hc
  exact {
    cells := hcell3
    stands := h.stands.kept hc hO (fun _ h => h)
    lasts := h.lasts.kept hc hO (fun _ h => h)
    names := h.names.kept hc hO (fun _ h => h)
    sure := h.names.kept hc hO (fun _ h => h)
    steps := ⟨World.ownsRow_nil _ _ _ _, fun b hb => by cases hb⟩
    writes := h.writes.kept hc hO (fun _ h => h)
    rOut := h.rOut
    rLt := fun b hb => by have := h.rLt b hb; have := hc.size; omega }

set_option maxRecDepth 100000 in
set_option maxHeartbeats 1000000 in
theorem rSize_any (h : RAt w r s R) (hk : s.Ok N) (hN : N ≤ 4194304) (k : List UInt8) :
    Calls Tryz.prog 55 #[.pointer (some ⟨r, 0, none⟩), .string ⟨k.toArray⟩] w fun e w' => e = .returned (.tuple #[.int .i64 ((s.size k).1 : Int), .int .i64 ((s.size k).2 : Int)]) ∧ Below w.heap.size w w' := by
  have hmax : maxLen = 9223372036854775807 := rfl
  obtain ⟨vst, vla, vna, vsu, vsp, vwr, e, h⟩ := h
  have hn := hk.manyNames
  have hnames := hk.names
  have hfl := hk.manyFiles
  have c3 := cell_of_heap h.cells (i := 3) (v := vna) (by rfl)
  have c1 := cell_of_heap h.cells (i := 1) (v := vst) (by rfl)
  have hfd := rfind_any h.names.1 k (by omega)
  obtain ⟨na, nc, rfl, _⟩ := h.names.1.at_
  obtain ⟨a, c, rfl, _, _, hst⟩ := h.stand
  cases hq : nlFind s.names k with
  | none =>
    have e1 : findI s.names k = -1 := by unfold findI; rw [hq]
    have e2 : s.size k = (0, 7) := by unfold DSt.size; rw [hq]
    rw [e1] at hfd
    rw [e2]
    clear e1 e2 hq hst hnames
    go_enter Tryz.func55, Tryz.ntmps55
    go_wp2_with (go_at_call 75; refine hfd.mono ?_; rintro _ w1 ⟨rfl, rfl⟩)
    go_ret2
    exact ⟨rfl, Below.refl _ _⟩
  | some f =>
    have hff := (hnames _ (nlFind_mem' hq)).1
    simp only at hff
    have e1 : findI s.names k = (f : Int) := by unfold findI; rw [hq]
    have e2 : s.size k = ((s.stands f).length, 0) := by unfold DSt.size; rw [hq]
    obtain ⟨g, ua, uc, rfl, cf, _, _⟩ := hst f hff
    have j0 : ¬ (f : Int) < 0 := by omega
    have j1 : (0 : Int) ≤ (f : Int) := by omega
    have j2 : (f : Int) < (s.files.length : Int) := by omega
    rw [e1] at hfd
    rw [e2]
    clear e1 e2 hq hst hnames
    go_enter Tryz.func55, Tryz.ntmps55
    go_wp2_with (go_at_call 75; refine hfd.mono ?_; rintro _ w1 ⟨rfl, rfl⟩)
    go_ret2
    exact ⟨rfl, Below.refl _ _⟩
end

end Go.Proofs.YtgckcnnnblggbaaGreat
