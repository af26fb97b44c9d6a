/- Texts of this claim, one behind the other: RdJ, RdK. -/
import Derived.Test.YtgckcnnnblggbaaGreatSt22
set_option linter.unusedSimpArgs false
set_option linter.unusedVariables false
/- The document's disk: Remove, Rename, Create. -/
namespace Go.Proofs.YtgckcnnnblggbaaGreat
open Go.RowKit Go.Maps

theorem Tryz.info36 : (Tryz.prog.info? 36).map (fun i => (i.zero, i.size, i.bytes)) = some (some (.slice none 0 0), 1, 24) := by kernel_rfl
theorem RTurns.after {w w1 w2 : World} {r : Nat} {s0 s2 : DSt} {R : Nat → Prop} (h0 : RAt w r s0 R) (hc : Chg (· = r) w w1) (h2 : RTurns w1 w2 r s2 R) : RTurns w w2 r s2 R := by
  have hrl := h0.r_lt
  obtain ⟨_, _, _, _, _, _, _, h0⟩ := h0
  have hc2 := hc.trans h2.2 (fun _ h _ => h)
  have hm := rmore_ok hrl h0.rLt h0.rOut hc2.size
  obtain ⟨⟨_, _, _, _, _, _, _, h⟩, _⟩ := h2
  have hs1 := hc.size
  refine ⟨⟨_, _, _, _, _, _, _, h.more (w' := w2) (fun b hb => ?_) hm.1 hm.2⟩, hc2⟩
  rcases hb with hb | hb
  · exact .inl hb
  · exact .inr ⟨by have := hb.1; omega, hb.2⟩
theorem RowB.row {w : World} {R : Nat → Prop} {v : Value} {l : List (List UInt8)} (h : RowB w R v l) : ∃ a c xs, v = .slice a l.length c ∧ l.length ≤ c ∧ (a = none → c = 0) ∧ xs.length = l.length ∧ RowAt w a xs ∧ (∀ u ∈ xs, u.oneCell' = true) ∧ (∀ (i : Nat) x b, xs[i]? = some x → l[i]? = some b → BytesIn w R x b) := by
  obtain ⟨xs, h1, h2, _⟩ := h
  obtain ⟨a, c, rfl, h3, h4, h5, h6⟩ := ownsRow_rowAt h1
  have hl : xs.length = l.length := by omega
  refine ⟨a, c, xs, rfl, h3, h4, hl, h5, fun u hu => ?_, h2⟩
  obtain ⟨i, hi, rfl⟩ := List.mem_iff_getElem.1 hu
  obtain ⟨_, _, e, _⟩ := (h2 i xs[i] (l[i]'(by omega)) (by simp [hi]) (by simp)).row
  rw [e]; rfl
theorem RowB.of_owns {w : World} {R : Nat → Prop} {lo : Nat} {v : Value} {l : List (List UInt8)} {xs : List Value} (h : w.ownsRow lo 36 1 v l.length xs) (hb : ∀ (i : Nat) x b, xs[i]? = some x → l[i]? = some b → BytesIn w R x b) (hR : ∀ b, lo ≤ b → b < w.heap.size → R b) : RowB w R v l :=
  ⟨xs, ownsRow_base_le h (Nat.zero_le _), hb, fun b hb => hR b (h.lt b hb).1 (h.lt b hb).2⟩

section
variable {w : World} {r : Nat} {s : DSt} {R : Nat → Prop} {N : Nat}
set_option maxRecDepth 100000 in
set_option maxHeartbeats 1000000 in
theorem rRemove_any (h : RAt w r s R) (hk : s.Ok N) (hN : N ≤ 4194304) (k : List UInt8) :
    Calls Tryz.prog 50 #[.pointer (some ⟨r, 0, none⟩), .string ⟨k.toArray⟩] w fun e w' => e = .returned (.int .i64 ((s.remove k).2 : Int)) ∧ RTurns w w' r (s.remove k).1 R := by
  have hmax : maxLen = 9223372036854775807 := rfl
  have h0 := h
  obtain ⟨vst, vla, vna, vsu, vsp, vwr, e, h⟩ := h
  have hd := hk.done
  have hn := hk.manyNames
  have c7 := cell_of_heap h.cells (i := 7) (v := .int .i64 (s.done : Int)) (by rfl)
  have z7 := frozen_of_heap (i := 7) h.cells
  have e7 : IntKind.i64.wrap ((s.done : Int) + 1) = (s.done : Int) + 1 := Go.IntWalk.i64_in _ (by omega)
  have ht := h.ticked
  have hc1 : Chg (· = r) w (w.setCell ⟨r, 7, none⟩ (.int .i64 ((s.done : Int) + 1))) := Chg.set _ rfl
  obtain ⟨w1, hw1⟩ : ∃ w1, w.setCell ⟨r, 7, none⟩ (.int .i64 ((s.done : Int) + 1)) = w1 := ⟨_, rfl⟩
  rw [hw1] at ht hc1
  have c3 := cell_of_heap ht.cells (i := 3) (v := vna) (by rfl)
  have hfd := rfind_any ht.names.1 k (by show s.names.length ≤ _; omega)
  have hrn := rnames_any ⟨_, _, _, _, _, _, _, ht⟩ hk.rising (.remove k) (by show s.names.length ≤ _; omega) (by show s.steps.length ≤ _; have := hk.manySteps; omega)
  obtain ⟨na, nc, rfl, _⟩ := h.names.1.at_
  cases hq : nlFind s.names k with
  | none =>
    have e1 : findI s.tick.names k = -1 := by show findI s.names k = -1; unfold findI; rw [hq]
    have e2 : s.remove k = (s.tick, 7) := by unfold DSt.remove; rw [hq]
    rw [e1] at hfd
    rw [e2]
    clear e1 e2 hq hrn
    go_enter Tryz.func50, Tryz.ntmps50
    go_wp2_with (first | rw [hw1] | (go_at_call 75; refine hfd.mono ?_; rintro _ w2 ⟨rfl, rfl⟩))
    go_ret
    exact ⟨rfl, RTurns.of h0 ht hc1⟩
  | some f =>
    have e1 : findI s.tick.names k = (f : Int) := by show findI s.names k = _; unfold findI; rw [hq]
    have e2 : s.remove k = (s.step (.remove k), 0) := by unfold DSt.remove; rw [hq]
    have j0 : ¬ (f : Int) < 0 := by omega
    rw [e1] at hfd
    rw [e2]
    clear e1 e2 hq
    go_enter Tryz.func50, Tryz.ntmps50
    go_wp2_with (first | rw [hw1] | (go_at_call 75; refine hfd.mono ?_; rintro _ w2 ⟨rfl, rfl⟩) | (go_at_call 76; refine hrn.mono ?_; rintro _ w2 ⟨rfl, ht2⟩))
    go_ret
    exact ⟨rfl, RTurns.after h0 hc1 ht2⟩

set_option maxRecDepth 100000 in
set_option maxHeartbeats 1000000 in
theorem rRename_any (h : RAt w r s R) (hk : s.Ok N) (hN : N ≤ 4194304) (k t : List UInt8) (hl : t.length ≤ maxLen) :
    Calls Tryz.prog 48 #[.pointer (some ⟨r, 0, none⟩), .string ⟨k.toArray⟩, .string ⟨t.toArray⟩] w fun e w' => e = .returned (.int .i64 ((s.rename k t).2 : Int)) ∧ RTurns w w' r (s.rename k t).1 R := by
  have hmax : maxLen = 9223372036854775807 := rfl
  have h0 := h
  obtain ⟨vst, vla, vna, vsu, vsp, vwr, e, h⟩ := h
  have hd := hk.done
  have hn := hk.manyNames
  have c7 := cell_of_heap h.cells (i := 7) (v := .int .i64 (s.done : Int)) (by rfl)
  have z7 := frozen_of_heap (i := 7) h.cells
  have e7 : IntKind.i64.wrap ((s.done : Int) + 1) = (s.done : Int) + 1 := Go.IntWalk.i64_in _ (by omega)
  have ht := h.ticked
  have hc1 : Chg (· = r) w (w.setCell ⟨r, 7, none⟩ (.int .i64 ((s.done : Int) + 1))) := Chg.set _ rfl
  obtain ⟨w1, hw1⟩ : ∃ w1, w.setCell ⟨r, 7, none⟩ (.int .i64 ((s.done : Int) + 1)) = w1 := ⟨_, rfl⟩
  rw [hw1] at ht hc1
  have c3 := cell_of_heap ht.cells (i := 3) (v := vna) (by rfl)
  have hnm := rName_any t w1 hl
  have hfd := rfind_any ht.names.1 k (by show s.names.length ≤ _; omega)
  have hrn := rnames_any ⟨_, _, _, _, _, _, _, ht⟩ hk.rising (.rename k t) (by show s.names.length ≤ _; omega) (by show s.steps.length ≤ _; have := hk.manySteps; omega)
  obtain ⟨na, nc, rfl, _⟩ := h.names.1.at_
  cases ho : nameOk t with
  | false =>
    have e2 : s.rename k t = (s.tick, 2) := by unfold DSt.rename; rw [ho]; rfl
    rw [ho] at hnm
    rw [e2]
    clear e2 ho hrn
    go_enter Tryz.func48, Tryz.ntmps48
    go_wp2_with (first | rw [hw1] | (go_at_call 32; refine hnm.mono ?_; rintro _ w2 ⟨rfl, rfl⟩))
    go_ret
    exact ⟨rfl, RTurns.of h0 ht hc1⟩
  | true =>
  rw [ho] at hnm
  cases hq : nlFind s.names k with
  | none =>
    have e1 : findI s.tick.names k = -1 := by show findI s.names k = -1; unfold findI; rw [hq]
    have e2 : s.rename k t = (s.tick, 7) := by unfold DSt.rename; rw [ho, hq]; rfl
    rw [e1] at hfd
    rw [e2]
    clear e1 e2 hq hrn ho
    go_enter Tryz.func48, Tryz.ntmps48
    go_wp2_with (first | rw [hw1] | (go_at_call 32; refine hnm.mono ?_; rintro _ w2 ⟨rfl, rfl⟩) | (go_at_call 75; refine hfd.mono ?_; rintro _ w2 ⟨rfl, rfl⟩))
    go_ret
    exact ⟨rfl, RTurns.of h0 ht hc1⟩
  | some f =>
    have e1 : findI s.tick.names k = (f : Int) := by show findI s.names k = _; unfold findI; rw [hq]
    have e2 : s.rename k t = (s.step (.rename k t), 0) := by unfold DSt.rename; rw [ho, hq]; rfl
    have j0 : ¬ (f : Int) < 0 := by omega
    rw [e1] at hfd
    rw [e2]
    clear e1 e2 hq ho
    go_enter Tryz.func48, Tryz.ntmps48
    go_wp2_with (first | rw [hw1] | (go_at_call 32; refine hnm.mono ?_; rintro _ w2 ⟨rfl, rfl⟩) | (go_at_call 75; refine hfd.mono ?_; rintro _ w2 ⟨rfl, rfl⟩) | (go_at_call 76; refine hrn.mono ?_; rintro _ w2 ⟨rfl, ht2⟩))
    go_ret
    exact ⟨rfl, RTurns.after h0 hc1 ht2⟩
end

end Go.Proofs.YtgckcnnnblggbaaGreat
/- The document's disk: Create. -/
namespace Go.Proofs.YtgckcnnnblggbaaGreat
open Go.RowKit Go.Maps

theorem RowB.append {w w' : World} {O R R' : Nat → Prop} {lo : Nat} {v : Value} {l : List (List UInt8)} {xs : List Value} (hb : ∀ (i : Nat) x b, xs[i]? = some x → l[i]? = some b → BytesIn w R x b) (hl : xs.length = l.length) (hc : Chg O w w') (hO : ∀ b, R b → ¬ O b) (h : w'.ownsRow lo 36 1 v (l.length + 1) (xs ++ [.slice none 0 0])) (hR : ∀ b, R b → R' b) (hn : ∀ b, lo ≤ b → b < w'.heap.size → R' b) : RowB w' R' v (l ++ [[]]) := by
  refine RowB.of_owns (by simpa using h) (fun i x b hx hy => ?_) hn
  rcases app_one hx hy hl with ⟨h1, h2⟩ | ⟨rfl, rfl⟩
  · exact (hb i x b h1 h2).kept hc hO hR
  · exact BytesIn.nil _ _

section
variable {w : World} {r : Nat} {s : DSt} {R : Nat → Prop} {N : Nat}
set_option maxRecDepth 100000 in
set_option maxHeartbeats 4000000 in
theorem rCreate_any (h : RAt w r s R) (hk : s.Ok N) (hN : N ≤ 4194304) (k : List UInt8) (hl : k.length ≤ maxLen) :
    Calls Tryz.prog 35 #[.pointer (some ⟨r, 0, none⟩), .string ⟨k.toArray⟩] w fun e w' => e = .returned (.int .i64 ((s.create k).2 : Int)) ∧ RTurns w w' r (s.create k).1 R := by
  have hmax : maxLen = 9223372036854775807 := rfl
  obtain ⟨i0, hi, hz0, hz1, hz2⟩ := info_parts Tryz.info36
  have h0 := h
  obtain ⟨vst, vla, vna, vsu, vsp, vwr, e, h⟩ := h
  have hd := hk.done
  have hn := hk.manyNames
  have hf := hk.manyFiles
  have c7 := cell_of_heap h.cells (i := 7) (v := .int .i64 (s.done : Int)) (by rfl)
  have z7 := frozen_of_heap (i := 7) h.cells
  have e7 : IntKind.i64.wrap ((s.done : Int) + 1) = (s.done : Int) + 1 := Go.IntWalk.i64_in _ (by omega)
  have ht := h.ticked
  have hc1 : Chg (· = r) w (w.setCell ⟨r, 7, none⟩ (.int .i64 ((s.done : Int) + 1))) := Chg.set _ rfl
  obtain ⟨w1, hw1⟩ : ∃ w1, w.setCell ⟨r, 7, none⟩ (.int .i64 ((s.done : Int) + 1)) = w1 := ⟨_, rfl⟩
  rw [hw1] at ht hc1
  have c3 := cell_of_heap ht.cells (i := 3) (v := vna) (by rfl)
  have hnm := rName_any k w1 hl
  have hfd := rfind_any ht.names.1 k (by show s.names.length ≤ _; omega)
  obtain ⟨na, nc, rfl, _⟩ := h.names.1.at_
  cases ho : nameOk k with
  | false =>
    have e2 : s.create k = (s.tick, 2) := by unfold DSt.create; rw [ho]; rfl
    rw [ho] at hnm
    rw [e2]
    clear e2 ho
    go_enter Tryz.func35, Tryz.ntmps35
    go_wp2_with (first | rw [hw1] | (go_at_call 32; refine hnm.mono ?_; rintro _ w2 ⟨rfl, rfl⟩))
    go_ret
    exact ⟨rfl, RTurns.of h0 ht hc1⟩
  | true =>
  rw [ho] at hnm
  cases hq : nlFind s.names k with
  | some f =>
    have e1 : findI s.tick.names k = (f : Int) := by show findI s.names k = _; unfold findI; rw [hq]
    have e2 : s.create k = (s.tick, 8) := by unfold DSt.create; rw [ho, hq]; rfl
    have j0 : ((f : Int) ≥ 0) := by omega
    rw [e1] at hfd
    rw [e2]
    clear e1 e2 hq ho
    go_enter Tryz.func35, Tryz.ntmps35
    go_wp2_with (first | rw [hw1] | (go_at_call 32; refine hnm.mono ?_; rintro _ w2 ⟨rfl, rfl⟩) | (go_at_call 75; refine hfd.mono ?_; rintro _ w2 ⟨rfl, rfl⟩))
    go_ret
    exact ⟨rfl, RTurns.of h0 ht hc1⟩
  | none =>
    have e1 : findI s.tick.names k = -1 := by show findI s.names k = -1; unfold findI; rw [hq]
    have e2 : s.create k = (({ s with files := s.files ++ [([], [])] } : DSt).step (.create k s.files.length), 0) := by unfold DSt.create; rw [ho, hq]; rfl
    rw [e1] at hfd
    rw [e2]
    clear e1 e2 hq ho
    obtain ⟨sa, sc, sxs, rfl, _, hs2, hs3, hs4, hs5, hs6⟩ := ht.stands.row
    obtain ⟨la, lc, _, rfl, _⟩ := ht.lasts.row
    simp only [List.length_map] at *
    change List.length sxs = s.files.length at hs3
    have hrl := heap_lt ht.cells
    have hsz01 := hc1.size
    have hOr : ∀ b, R b → ¬ b = r := fun b hb e => h.rOut (e ▸ hb)
    have hob1 := ht.cells
    have d1 := cell_of_heap hob1 (i := 1) (v := .slice sa s.files.length sc) (by rfl)
    have e9 : IntKind.i64.wrap (((s.files.length + 1 : Nat) : Int) - 1) = (s.files.length : Int) := (Go.IntWalk.i64_in _ (by omega)).trans (by omega)
    have HT := Lib.hid ht
    have HS6 := Lib.hid hs6
    have HL := Lib.hid ht.lasts
    clear hs6 ht
    go_enter Tryz.func35, Tryz.ntmps35
    go_wp2_with (first | rw [hw1] | rw [hw4] | rw [hw7] | (go_at_call 32; refine hnm.mono ?_; rintro _ w2 ⟨rfl, rfl⟩) | (go_at_call 75; refine hfd.mono ?_; rintro _ w2 ⟨rfl, rfl⟩) | (at_builtin; refine wpList_append_any _ rfl (.const (.slice none 0 0)) (.tmp 28) 81 rfl w1.heap.size 36 i0 (.slice none 0 0) 24 Tryz.underlying81 hi hz0 hz1 hz2 rfl _ 0 [] rfl (World.ownsRow_nil _ _ _ _) sa s.files.length sc sxs rfl hs3 hs2 hs4 hs5 (by omega) (by omega) (Nat.le_refl _) ?_; intro v2 w2 hv2 hg2; rw [Nat.zero_add, List.nil_append] at hv2; have hc2 : Chg (fun _ => False) w1 w2 := Chg.of_grown hg2 (fun k e => by cases e); have hz12 := hc2.size) | (at_builtin; refine wpList_append_any _ rfl (.tmp 29) (.tmp 30) 81 rfl w1.heap.size 36 i0 (.slice none 0 0) 24 Tryz.underlying81 hi hz0 hz1 hz2 rfl _ s.files.length _ rfl (World.ownsRow.alloc hv2 _) (some ⟨w2.heap.size, 0, none⟩) 1 1 [.slice none 0 0] rfl rfl (fun h => by cases h) (RowAt.of_row (fun j u hu => cell_new w2 _ _ j u (by simpa using hu))) (by simp [Value.oneCell']) (by omega) (by omega) (by rw [World.size_alloc]; omega) ?_; intro v3 w3 hv3 hg3; have hc13 : Chg (fun _ => False) w1 w3 := (hc2.trans (Chg.alloc (fun _ => False) w2 _) (fun _ h _ => h)).trans (Chg.of_grown (O := fun b => w1.heap.size ≤ b) hg3 (fun k e _ => (hv2.lt k e).1)) (fun b h1 h2 => by omega); have hz13 := hc13.size; have hob3 := hc13.obj hob1 (fun h => h); have d31 := cell_of_heap hob3 (i := 1) (v := .slice sa s.files.length sc) (by rfl); have z31 := frozen_of_heap (i := 1) hob3; obtain ⟨sa3, sc3, rfl, _⟩ := RowAt.of_owns hv3; have hc34 : Chg (· = r) w3 (w3.setCell ⟨r, 1, none⟩ (.slice sa3 (s.files.length + 1) sc3)) := Chg.set _ rfl; have hob4 := heap_set_cells (i := 1) (.slice sa3 (s.files.length + 1) sc3) hob3; obtain ⟨w4, hw4⟩ : ∃ w4, w3.setCell ⟨r, 1, none⟩ (.slice sa3 (s.files.length + 1) sc3) = w4 := ⟨_, rfl⟩; rw [hw4] at hc34 hob4; have d42 := cell_of_heap hob4 (i := 2) (v := .slice la s.files.length lc) (by rfl); have hc14 : Chg (· = r) w1 w4 := hc13.mono (O' := (· = r)) (fun _ h _ => h.elim) |>.trans hc34 (fun _ h _ => h); have hz14 := hc14.size; obtain ⟨la', lc', lxs, el, _, hl2, hl3, hl4, hl5, hl6⟩ := (HL.out.kept (R' := R) hc14 hOr (fun _ h => h)).row; simp only [List.length_map, Value.slice.injEq] at el hl3; obtain ⟨rfl, _, rfl⟩ := el; change List.length lxs = s.files.length at hl3; have HL6 := Lib.hid hl6; clear hl6 d1) | (at_builtin; refine wpList_append_any _ rfl (.const (.slice none 0 0)) (.tmp 38) 81 rfl w4.heap.size 36 i0 (.slice none 0 0) 24 Tryz.underlying81 hi hz0 hz1 hz2 rfl _ 0 [] rfl (World.ownsRow_nil _ _ _ _) la s.files.length lc lxs rfl hl3 hl2 hl4 hl5 (by omega) (by omega) (Nat.le_refl _) ?_; intro v5 w5 hv5 hg5; rw [Nat.zero_add, List.nil_append] at hv5; have hc5 : Chg (fun _ => False) w4 w5 := Chg.of_grown hg5 (fun k e => by cases e); have hz45 := hc5.size) | (at_builtin; refine wpList_append_any _ rfl (.tmp 39) (.tmp 40) 81 rfl w4.heap.size 36 i0 (.slice none 0 0) 24 Tryz.underlying81 hi hz0 hz1 hz2 rfl _ s.files.length _ rfl (World.ownsRow.alloc hv5 _) (some ⟨w5.heap.size, 0, none⟩) 1 1 [.slice none 0 0] rfl rfl (fun h => by cases h) (RowAt.of_row (fun j u hu => cell_new w5 _ _ j u (by simpa using hu))) (by simp [Value.oneCell']) (by omega) (by omega) (by rw [World.size_alloc]; omega) ?_; intro v6 w6 hv6 hg6; have hc46 : Chg (fun _ => False) w4 w6 := (hc5.trans (Chg.alloc (fun _ => False) w5 _) (fun _ h _ => h)).trans (Chg.of_grown (O := fun b => w4.heap.size ≤ b) hg6 (fun k e _ => (hv5.lt k e).1)) (fun b h1 h2 => by omega); have hz46 := hc46.size; have hob6 := hc46.obj hob4 (fun h => h); have d62 := cell_of_heap hob6 (i := 2) (v := .slice la s.files.length lc) (by rfl); have z62 := frozen_of_heap (i := 2) hob6; obtain ⟨la6, lc6, rfl, _⟩ := RowAt.of_owns hv6; have hc67 : Chg (· = r) w6 (w6.setCell ⟨r, 2, none⟩ (.slice la6 (s.files.length + 1) lc6)) := Chg.set _ rfl; have hob7 := heap_set_cells (i := 2) (.slice la6 (s.files.length + 1) lc6) hob6; obtain ⟨w7, hw7⟩ : ∃ w7, w6.setCell ⟨r, 2, none⟩ (.slice la6 (s.files.length + 1) lc6) = w7 := ⟨_, rfl⟩; rw [hw7] at hc67 hob7; have d71 := cell_of_heap hob7 (i := 1) (v := .slice sa3 (s.files.length + 1) sc3) (by rfl); clear d42))
    have hrl0 := h0.r_lt
    have hc47 : Chg (· = r) w4 w7 := (hc46.mono (O' := (· = r)) (fun _ h _ => h.elim)).trans hc67 (fun _ h _ => h)
    have hc17 : Chg (· = r) w1 w7 := hc14.trans hc47 (fun _ h _ => h)
    have hc37 : Chg (· = r) w3 w7 := hc34.trans hc47 (fun _ h _ => h)
    have hcw7 : Chg (· = r) w w7 := hc1.trans hc17 (fun _ h _ => h)
    have hm := rmore_ok (w := w) (w' := w7) (r := r) hrl0 h.rLt h.rOut hcw7.size
    have hRM : ∀ b, R b → RMore R w w7 b := fun b hb => .inl hb
    have hz67 := hc67.size
    have hz47 := hc47.size
    have hT : RTurns w w7 r { s.tick with files := s.files ++ [([], [])] } R := by
      refine ⟨⟨.slice sa3 (s.files.length + 1) sc3, .slice la6 (s.files.length + 1) lc6, .slice na s.names.length nc, vsu, vsp, vwr, e, ?_⟩, hcw7⟩
      exact {
        cells := hob7
        stands := by
          have h1 := hc37.row hv3 (fun b hb e => by have := (hv3.lt b hb).1; omega)
          have := RowB.append (l := s.files.map (·.1)) HS6.out (by rw [List.length_map]; exact hs3) hc17 hOr (by rw [List.length_map]; exact h1) hRM (fun b h1 h2 => .inr ⟨by omega, h2⟩)
          simpa using this
        lasts := by
          have h1 := hc67.row hv6 (fun b hb e => by have := (hv6.lt b hb).1; omega)
          have := RowB.append (l := s.files.map (·.2)) HL6.out (by rw [List.length_map]; exact hl3) hc47 hOr (by rw [List.length_map]; exact h1) hRM (fun b h1 h2 => .inr ⟨by omega, h2⟩)
          simpa using this
        names := h.names.kept hcw7 hOr hRM
        sure := h.sure.kept hcw7 hOr hRM
        steps := h.steps.kept hcw7 hOr hRM
        writes := h.writes.kept hcw7 hOr hRM
        rOut := hm.1
        rLt := hm.2 }
    have hrn := rnames_any hT.1 hk.rising (.create k s.files.length) (by show s.names.length ≤ _; omega) (by show s.steps.length ≤ _; have := hk.manySteps; omega)
    clear hc2 hc13 hc14 hc17 hc34 hc37 hc46 hc47 hc67 hob1 hob3 hob4 hob6 hob7 hv2 hv3 hv5 hv6 hm hRM hg2 hg3 hg5 hg6 hs4 hs5 hl4 hl5
    go_wp2_with (first | (go_at_call 76; refine hrn.mono ?_; rintro _ w8 ⟨rfl, ht2⟩))
    go_ret
    exact ⟨rfl, RTurns.trans h0 hT ht2⟩
end

end Go.Proofs.YtgckcnnnblggbaaGreat
