/- Texts of this claim, one behind the other: FaI. -/
import Derived.Test.YtehmnmpkfbginaaGreatFc24
set_option linter.unusedSimpArgs false
set_option linter.unusedVariables false
/- FaultClear: asked, of a disk and of a device over it. (printed by gen/asked.py) -/
namespace Go.Proofs.YtehmnmpkfbginaaGreat
open Go.RowKit Go.Maps

/-- append, at a step of a region, from whatever slice of one-cell elements -/
theorem wp_append_src {P : Program} {w : World} {o : Oper} {a : Act} {K : Act → World → Prop} {Q : Exit → Act → World → Prop} (s x : Operand) (t : TypeId)
    (ho : o.op = .call { callee := .builtin .append, args := #[s, x], argTypes := #[t, t] })
    (base : Nat) (e : TypeId) (i : TypeInfo) (z : Value) (bytes : Nat) (ht : P.underlying t = some (.slice e)) (hi : P.info? e = some i) (hz : i.zero = some z)
    (hsize : i.size = 1) (hby : i.bytes = bytes) (hzs : z.cells.size = 1)
    (v : Value) (n : Nat) (xs : List Value) (hs : a.eval s = v) (hown : w.ownsRow base e 1 v n xs)
    (sa : Option Addr) (m c : Nat) (news : List Value) (hx : a.eval x = .slice sa m c) (hl : news.length = m) (hnil : sa = none → c = 0) (hnews : RowAt w sa news) (h1 : ∀ u ∈ news, u.oneCell' = true)
    (h63 : n + m ≤ maxLen) (hbytes : (n + m) * bytes ≤ 140737488355328) (hbase : base ≤ w.heap.size)
    (h : ∀ v' w', w'.ownsRow base e 1 v' (n + m) (xs ++ news) → w.grownBy w' v.ownBlock → K (a.put o.dst v') w') : o.wp P a w K Q := by
  cases sa with
  | none =>
    have hn : news = [] := by
      by_cases hne : news = []
      · exact hne
      · obtain ⟨b, off, e, _⟩ := hnews hne; cases e
    subst hn
    obtain rfl : m = 0 := by simpa using hl.symm
    obtain rfl : c = 0 := hnil rfl
    have hrun := run_append_owned_none (P := P) (w := w) base t o.type e i 1 ht hi v n xs hown
    have hk := h v w (by simpa using hown) ⟨rfl, rfl, rfl, Nat.le_refl _, fun _ _ _ => rfl⟩
    unfold Oper.wp
    simp [execOp, ho, resolve, invoke, builtin, hs, hx, hrun, Result.andThen]
    exact hk
  | some ad =>
    refine wp_append_dev s x t ho base e i z 1 bytes ht hi hz hsize hby hzs (by decide) v n xs hs hown ad m c news hx (by omega) ?_ h1 h63 hbytes hbase (fun v' w' h2 h3 _ => h v' w' h2 h3)
    intro j u hu
    have hne : news ≠ [] := by intro e; subst e; simp at hu
    obtain ⟨b, off, e, hc⟩ := hnews hne
    cases e
    have := hc j u hu
    rwa [show (⟨b, off, none⟩ : Addr).add j = ⟨b, off + j, none⟩ from by unfold Addr.add; split <;> simp_all]
/-- a step of the law's -/
structure AOp where
  kind : Int
  on : Int
  n : Int
  name : List UInt8
  dst : List UInt8
  at_ : Int
  data : List UInt8
def encO (x : AOp) (da : Option Addr) (dc : Nat) : Array Value := #[.int .i64 x.kind, .int .i64 x.on, .int .i64 x.n, .string ⟨x.name.toArray⟩, .string ⟨x.dst.toArray⟩, .int .i64 x.at_, .slice da x.data.length dc]
structure AOp.Ok (x : AOp) : Prop where
  name : x.name.length ≤ maxLen
  dst : x.dst.length ≤ maxLen
  at64 : -9223372036854775808 ≤ x.at_ ∧ x.at_ < 9223372036854775808
  data : x.data.length ≤ 1048576
noncomputable def stepD (x : AOp) (s : DSt) : DSt × Nat :=
  if x.kind = 1 then s.create x.name
  else if x.kind = 2 then s.put x.name x.at_ x.data
  else if x.kind = 3 then s.cut x.name x.at_
  else if x.kind = 4 then s.sync x.name
  else if x.kind = 5 then s.syncNames
  else if x.kind = 6 then s.rename x.name x.dst
  else if x.kind = 7 then s.remove x.name
  else (s, 0)
noncomputable def stepF (x : AOp) (f : FSt) : FSt × Int :=
  if x.kind = 1 then f.ask ⟨1, x.name, [], 0, 0, 0⟩ (f.disk.create x.name)
  else if x.kind = 2 then f.ask ⟨2, x.name, [], x.at_, (x.data.length : Int), 0⟩ (f.disk.put x.name x.at_ x.data)
  else if x.kind = 3 then f.ask ⟨3, x.name, [], x.at_, 0, 0⟩ (f.disk.cut x.name x.at_)
  else if x.kind = 4 then f.ask ⟨4, x.name, [], 0, 0, 0⟩ (f.disk.sync x.name)
  else if x.kind = 5 then f.ask ⟨5, [], [], 0, 0, 0⟩ f.disk.syncNames
  else if x.kind = 6 then f.ask ⟨6, x.name, x.dst, 0, 0, 0⟩ (f.disk.rename x.name x.dst)
  else if x.kind = 7 then f.ask ⟨7, x.name, [], 0, 0, 0⟩ (f.disk.remove x.name)
  else (f, 0)
theorem Moved.refl {F G : Nat → Prop} {w : World} (hF : ∀ b, F b → b < w.heap.size) (hG : ∀ b, G b → b < w.heap.size) : Moved F G F G w w := ⟨Chg.refl _ _, fun b hb => ⟨.inl hb, hF b hb⟩, fun b hb => ⟨.inl hb, hG b hb⟩⟩
set_option maxRecDepth 100000 in
set_option maxHeartbeats 8000000 in
theorem asked_disk {F G : Nat → Prop} {w : World} {p : Nat} {s : DSt} (h : One F G w p s) {x : AOp} (hx : x.Ok) {da : Option Addr} {dc : Nat} (hrow : RowAt w da (x.data.map bv)) (hnil : da = none → dc = 0) {N : Nat} (hok : s.Ok N) (hN : N + 1 < maxList) :
    Calls Tryz.prog 10 #[.iface 31 (.pointer (some ⟨p, 0, none⟩)), .agg (encO x da dc)] w fun e w' => e = .returned (.int .i64 ((stepD x s).2 : Int)) ∧ ∃ F' G', One F' G' w' p (stepD x s).1 ∧ Moved F G F' G' w w' := by
  have hmax : maxLen = 9223372036854775807 := rfl
  obtain ⟨i0, hi, hz0, hz1, hz2⟩ := info_parts Tryz.info5
  obtain ⟨w1, hw1⟩ : ∃ w1, w.alloc (.cells (encO x da dc) 44) = w1 := ⟨_, rfl⟩
  have hb1 : Below w.heap.size w w1 := by rw [← hw1]; exact below_alloc _ _
  have hB : w1.heap[w.heap.size]? = some (.cells (encO x da dc) 44 (0, 0)) := by rw [← hw1]; exact World.alloc_heap_new w _
  have b0 := cell_of_heap hB (i := 0) (v := .int .i64 x.kind) rfl
  have b3 := cell_of_heap hB (i := 3) (v := .string ⟨x.name.toArray⟩) rfl
  have b4 := cell_of_heap hB (i := 4) (v := .string ⟨x.dst.toArray⟩) rfl
  have b5 := cell_of_heap hB (i := 5) (v := .int .i64 x.at_) rfl
  have b6 := cell_of_heap hB (i := 6) (v := .slice da x.data.length dc) rfl
  have h1 := h.below hb1
  have hlt := h1.lt
  have hr1 := hrow.below hb1
  have hln := hx.data
  have hzz := hb1.size
  have HB := Lib.hid hB
  unfold encO at hw1 ⊢
  have HW := Lib.hid hw1
  clear hw1 hB
  have fin : ∀ {k : Int} {R : Prop}, R → (e : Ending) → True := fun _ _ => trivial
  clear fin
  by_cases k1 : x.kind = 1
  · have hst : stepD x s = s.create x.name := by unfold stepD; rw [if_pos k1]
    rw [hst]
    have g1 : (x.kind == 1) = true := by simp [k1]
    clear hst k1
    have hcr := h1.create hx.name hok hN
    go_enter Tryz.func10, Tryz.ntmps10
    go_wp2_with (first | rw [HW.out] | (go_at_call 95; refine hcr.mono ?_; rintro _ w2 ⟨rfl, hq⟩))
    go_ret
    obtain ⟨F', G', q1, q2⟩ := hq
    exact ⟨rfl, F', G', q1, q2.after hb1⟩
  by_cases k2 : x.kind = 2
  · have hst : stepD x s = s.put x.name x.at_ x.data := by unfold stepD; rw [if_neg k1]; rw [if_pos k2]
    rw [hst]
    have g1 : (x.kind == 1) = false := by simp [k1]
    have g2 : (x.kind == 2) = true := by simp [k2]
    clear hst k1 k2
    have HNB := Lib.hid (fun hf : F w.heap.size => by have := h.lt.1 _ hf; omega : ¬ F w.heap.size)
    go_enter Tryz.func10, Tryz.ntmps10
    go_upto_region 5 with (rw [HW.out])
    refine wp_region_held_drew (S := fun w' => w'.cell? ⟨w.heap.size, 3, none⟩ = some (.string ⟨x.name.toArray⟩) ∧ w'.cell? ⟨w.heap.size, 5, none⟩ = some (.int .i64 x.at_) ∧ w'.cell? ⟨w.heap.size, 6, none⟩ = some (.slice da x.data.length dc)) (by kernel_rfl) (⟨b3, b5, b6⟩) (fun hHeld => ?_)
    refine wpAnyH_take (i := 0) (v := ?_) rfl (by kernel_rfl) (by kernel_rfl) (by kernel_rfl) (fun _ _ _ h => h) (Or.inl ⟨by rfl, ?_⟩) hHeld ?_
    rotate_left
    · intro w hSw; (try dsimp only at hSw); go_simp
      all_goals (with_reducible rfl)
    (try simp only [Act.put, List.getElem_toArray, List.getElem_cons_succ, List.getElem_cons_zero, List.setIfInBounds_toArray, List.set_cons_zero, List.set_cons_succ])
    refine wpAnyH_take (i := 1) (v := ?_) rfl (by kernel_rfl) (by kernel_rfl) (by kernel_rfl) (fun _ _ _ h => h) (Or.inl ⟨by rfl, ?_⟩) hHeld ?_
    rotate_left
    · intro w hSw; (try dsimp only at hSw); go_simp
      all_goals (with_reducible rfl)
    (try simp only [Act.put, List.getElem_toArray, List.getElem_cons_succ, List.getElem_cons_zero, List.setIfInBounds_toArray, List.set_cons_zero, List.set_cons_succ])
    refine wpAnyH_take (i := 2) (v := ?_) rfl (by kernel_rfl) (by kernel_rfl) (by kernel_rfl) (fun _ _ _ h => h) (Or.inl ⟨by rfl, ?_⟩) hHeld ?_
    rotate_left
    · intro w hSw; (try dsimp only at hSw); go_simp
      all_goals (with_reducible rfl)
    (try simp only [Act.put, List.getElem_toArray, List.getElem_cons_succ, List.getElem_cons_zero, List.setIfInBounds_toArray, List.set_cons_zero, List.set_cons_succ])
    refine wpAnyH_take (i := 3) (v := ?_) rfl (by kernel_rfl) (by kernel_rfl) (by kernel_rfl) (fun _ _ _ h => h) (Or.inl ⟨by rfl, ?_⟩) hHeld ?_
    rotate_left
    · intro w hSw; (try dsimp only at hSw); go_simp
      all_goals (with_reducible rfl)
    (try simp only [Act.put, List.getElem_toArray, List.getElem_cons_succ, List.getElem_cons_zero, List.setIfInBounds_toArray, List.set_cons_zero, List.set_cons_succ])
    refine wpAnyH_take (i := 4) (v := ?_) rfl (by kernel_rfl) (by kernel_rfl) (by kernel_rfl) (fun _ _ _ h => h) (Or.inl ⟨by rfl, ?_⟩) hHeld ?_
    rotate_left
    · intro w hSw; (try dsimp only at hSw); go_simp
      all_goals (with_reducible rfl)
    (try simp only [Act.put, List.getElem_toArray, List.getElem_cons_succ, List.getElem_cons_zero, List.setIfInBounds_toArray, List.set_cons_zero, List.set_cons_succ])
    refine wpAnyH_take (i := 6) (v := ?_) rfl (by kernel_rfl) (by kernel_rfl) (by kernel_rfl) (fun _ _ _ h => h) (Or.inl ⟨by rfl, ?_⟩) hHeld ?_
    rotate_left
    · intro w hSw; (try dsimp only at hSw); go_simp
      all_goals (with_reducible rfl)
    (try simp only [Act.put, List.getElem_toArray, List.getElem_cons_succ, List.getElem_cons_zero, List.setIfInBounds_toArray, List.set_cons_zero, List.set_cons_succ])
    refine wpAnyH_take (i := 7) (v := ?_) rfl (by kernel_rfl) (by kernel_rfl) (by kernel_rfl) (fun _ _ _ h => h) (Or.inl ⟨by rfl, ?_⟩) hHeld ?_
    rotate_left
    · intro w hSw; (try dsimp only at hSw); go_simp
      all_goals (with_reducible rfl)
    (try simp only [Act.put, List.getElem_toArray, List.getElem_cons_succ, List.getElem_cons_zero, List.setIfInBounds_toArray, List.set_cons_zero, List.set_cons_succ])
    refine wpAnyH_take (i := 9) (v := ?_) rfl (by kernel_rfl) (by kernel_rfl) (by kernel_rfl) (fun _ _ _ h => h) (Or.inl ⟨by rfl, ?_⟩) hHeld ?_
    rotate_left
    · intro w hSw; (try dsimp only at hSw); go_simp
      all_goals (with_reducible rfl)
    (try simp only [Act.put, List.getElem_toArray, List.getElem_cons_succ, List.getElem_cons_zero, List.setIfInBounds_toArray, List.set_cons_zero, List.set_cons_succ])
    refine wpAnyH_take (i := 10) (v := .func (.method "Write") #[.iface 31 (.pointer (some ⟨p, 0, none⟩))] #[]) rfl (by kernel_rfl) (by kernel_rfl) (by kernel_rfl) (fun _ _ _ h => h) (Or.inl ⟨by rfl, ?_⟩) hHeld ?_
    · intro w hSw; (try dsimp only at hSw); go_simp
      all_goals kernel_rfl
    (try simp only [Act.put, List.getElem_toArray, List.getElem_cons_succ, List.getElem_cons_zero, List.setIfInBounds_toArray, List.set_cons_zero, List.set_cons_succ])
    refine wpAnyH_take (i := 11) (v := ?_) rfl (by kernel_rfl) (by kernel_rfl) (by kernel_rfl) (fun _ _ _ h => h) (Or.inl ⟨by rfl, ?_⟩) hHeld ?_
    rotate_left
    · intro w hSw; (try dsimp only at hSw); go_simp
      all_goals (with_reducible rfl)
    (try simp only [Act.put, List.getElem_toArray, List.getElem_cons_succ, List.getElem_cons_zero, List.setIfInBounds_toArray, List.set_cons_zero, List.set_cons_succ])
    refine wpAnyH_ready (rs := [5]) (by kernel_rfl) (by simp) ?_
    refine AllReadyH.cons rfl (fun K hK => ?_) AllReadyH.nil
    go_simp
    have hca : Chg (fun _ => False) w1 (w1.alloc (.cells #[] 5)) := Chg.alloc _ _ _
    have hba : Below w1.heap.size w1 (w1.alloc (.cells #[] 5)) := below_alloc _ _
    have d3 := hca.cell b3 (fun h => h)
    have d5 := hca.cell b5 (fun h => h)
    have d6 := hca.cell b6 (fun h => h)
    have hv0 := ownsRow_lit w1 w1.heap.size #[] 5 1 0 (Nat.le_refl _) (by omega) rfl

    refine hK.out _ _ (⟨d3, d5, d6⟩) (fun hHeld => ?_)
    clear hK K
    (try simp only [Act.put, List.getElem_toArray, List.getElem_cons_succ, List.getElem_cons_zero, List.setIfInBounds_toArray, List.set_cons_zero, List.set_cons_succ])
    refine wpAnyH_ready (rs := [8]) (by kernel_rfl) (by simp) ?_
    refine AllReadyH.cons rfl (fun K hK => ?_) AllReadyH.nil
    rw [if_pos (by rfl)]
    refine wp_append_src (.tmp 20) (.tmp 22) 42 rfl w1.heap.size 5 i0 (.int .u8 0) 1 Tryz.underlying42 hi hz0 hz1 hz2 rfl (.slice (some ⟨w1.heap.size, 0, none⟩) 0 0) 0 [] rfl hv0 da x.data.length dc (x.data.map bv) rfl (by simp) hnil (fun hh => (hr1.below hba) hh) (by intro u hu; obtain ⟨y, _, rfl⟩ := List.mem_map.1 hu; rfl) (by omega) (by omega) (by rw [World.size_drew, World.size_alloc]; omega) ?_
    intro v2 w2 hv2 hg2
    rw [Nat.zero_add, List.nil_append] at hv2
    obtain ⟨va, vc, rfl, _, vnil, _⟩ := ownsRow_at hv2
    have hb2 : Below w1.heap.size w1 w2 := (((Chg.alloc (fun b => b = w1.heap.size) w1 (.cells #[] 5)).drew).trans (Chg.of_grown (O := fun b => b = w1.heap.size) hg2 (fun k e _ => by have e : w1.heap.size = k := (by simpa [Value.ownBlock] using e); exact e.symm)) (fun _ h _ => h)).below (fun k h => by omega)
    have e3 := (hb2.cell (p := ⟨w.heap.size, 3, none⟩) (cell_lt b3)).trans b3
    have e5 := (hb2.cell (p := ⟨w.heap.size, 5, none⟩) (cell_lt b5)).trans b5
    have e6 := (hb2.cell (p := ⟨w.heap.size, 6, none⟩) (cell_lt b6)).trans b6
    have hrow2 : RowAt w2 va (x.data.map bv) := by
      obtain ⟨a', c', e', hr, _⟩ := RowAt.of_owns hv2
      cases e'; exact hr
    have h2 := h1.below hb2
    have hvb : ∀ y, va = some y → w1.heap.size ≤ y.block := fun y e => by subst e; exact (hv2.lt _ rfl).1

    refine hK.out _ _ (⟨e3, e5, e6⟩) (fun hHeld => ?_)
    clear hK K
    (try simp only [Act.put, List.getElem_toArray, List.getElem_cons_succ, List.getElem_cons_zero, List.setIfInBounds_toArray, List.set_cons_zero, List.set_cons_succ])
    refine wpAnyH_ready (rs := [12]) (by kernel_rfl) (by simp) ?_
    refine AllReadyH.cons rfl (fun K hK => ?_) AllReadyH.nil
    go_simp
    have hcr := h2.put hx.name hrow2 vnil (by omega) hx.at64 hok hN
    go_wp2_with (go_at_call 102; refine hcr.mono ?_; rintro _ w3 ⟨rfl, hq⟩)
    have MV : Chg F w2 w3 := by obtain ⟨_, _, _, q⟩ := hq; exact q.1
    have hnb : ¬ F w.heap.size := fun hf => HNB.out hf
    have f3 := MV.cell e3 hnb
    have f5 := MV.cell e5 hnb
    have f6 := MV.cell e6 hnb

    refine hK.out _ _ (⟨f3, f5, f6⟩) (fun hHeld => ?_)
    clear hK K
    (try simp only [Act.put, List.getElem_toArray, List.getElem_cons_succ, List.getElem_cons_zero, List.setIfInBounds_toArray, List.set_cons_zero, List.set_cons_succ])
    refine wpAnyH_take (i := 13) (v := ?_) rfl (by kernel_rfl) (by kernel_rfl) (by kernel_rfl) (fun _ _ _ h => h) (Or.inl ⟨by rfl, ?_⟩) hHeld ?_
    rotate_left
    · intro w hSw; (try dsimp only at hSw); go_simp
      all_goals (with_reducible rfl)
    (try simp only [Act.put, List.getElem_toArray, List.getElem_cons_succ, List.getElem_cons_zero, List.setIfInBounds_toArray, List.set_cons_zero, List.set_cons_succ])
    refine wpAnyH_done (by kernel_rfl) ?_ _
    clear hHeld
    have HQ := Lib.hid hq
    clear hq
    go_wp2
    go_ret
    obtain ⟨F', G', q1, q2⟩ := HQ.out
    exact ⟨rfl, F', G', q1, q2.after (hb1.trans (hb2.mono hb1.size))⟩
  by_cases k3 : x.kind = 3
  · have hst : stepD x s = s.cut x.name x.at_ := by unfold stepD; rw [if_neg k1]; rw [if_neg k2]; rw [if_pos k3]
    rw [hst]
    have g1 : (x.kind == 1) = false := by simp [k1]
    have g2 : (x.kind == 2) = false := by simp [k2]
    have g3 : (x.kind == 3) = true := by simp [k3]
    clear hst k1 k2 k3
    have hcr := h1.cut hx.name hx.at64 hok hN
    go_enter Tryz.func10, Tryz.ntmps10
    go_wp2_with (first | rw [HW.out] | (go_at_call 96; refine hcr.mono ?_; rintro _ w2 ⟨rfl, hq⟩))
    go_ret
    obtain ⟨F', G', q1, q2⟩ := hq
    exact ⟨rfl, F', G', q1, q2.after hb1⟩
  by_cases k4 : x.kind = 4
  · have hst : stepD x s = s.sync x.name := by unfold stepD; rw [if_neg k1]; rw [if_neg k2]; rw [if_neg k3]; rw [if_pos k4]
    rw [hst]
    have g1 : (x.kind == 1) = false := by simp [k1]
    have g2 : (x.kind == 2) = false := by simp [k2]
    have g3 : (x.kind == 3) = false := by simp [k3]
    have g4 : (x.kind == 4) = true := by simp [k4]
    clear hst k1 k2 k3 k4
    have hcr := h1.sync hx.name hok hN
    go_enter Tryz.func10, Tryz.ntmps10
    go_wp2_with (first | rw [HW.out] | (go_at_call 100; refine hcr.mono ?_; rintro _ w2 ⟨rfl, hq⟩))
    go_ret
    obtain ⟨F', G', q1, q2⟩ := hq
    exact ⟨rfl, F', G', q1, q2.after hb1⟩
  by_cases k5 : x.kind = 5
  · have hst : stepD x s = s.syncNames := by unfold stepD; rw [if_neg k1]; rw [if_neg k2]; rw [if_neg k3]; rw [if_neg k4]; rw [if_pos k5]
    rw [hst]
    have g1 : (x.kind == 1) = false := by simp [k1]
    have g2 : (x.kind == 2) = false := by simp [k2]
    have g3 : (x.kind == 3) = false := by simp [k3]
    have g4 : (x.kind == 4) = false := by simp [k4]
    have g5 : (x.kind == 5) = true := by simp [k5]
    clear hst k1 k2 k3 k4 k5
    have hcr := h1.syncNames  hok hN
    go_enter Tryz.func10, Tryz.ntmps10
    go_wp2_with (first | rw [HW.out] | (go_at_call 101; refine hcr.mono ?_; rintro _ w2 ⟨rfl, hq⟩))
    go_ret
    obtain ⟨F', G', q1, q2⟩ := hq
    exact ⟨rfl, F', G', q1, q2.after hb1⟩
  by_cases k6 : x.kind = 6
  · have hst : stepD x s = s.rename x.name x.dst := by unfold stepD; rw [if_neg k1]; rw [if_neg k2]; rw [if_neg k3]; rw [if_neg k4]; rw [if_neg k5]; rw [if_pos k6]
    rw [hst]
    have g1 : (x.kind == 1) = false := by simp [k1]
    have g2 : (x.kind == 2) = false := by simp [k2]
    have g3 : (x.kind == 3) = false := by simp [k3]
    have g4 : (x.kind == 4) = false := by simp [k4]
    have g5 : (x.kind == 5) = false := by simp [k5]
    have g6 : (x.kind == 6) = true := by simp [k6]
    clear hst k1 k2 k3 k4 k5 k6
    have hcr := h1.rename hx.name hx.dst hok hN
    go_enter Tryz.func10, Tryz.ntmps10
    go_wp2_with (first | rw [HW.out] | (go_at_call 99; refine hcr.mono ?_; rintro _ w2 ⟨rfl, hq⟩))
    go_ret
    obtain ⟨F', G', q1, q2⟩ := hq
    exact ⟨rfl, F', G', q1, q2.after hb1⟩
  by_cases k7 : x.kind = 7
  · have hst : stepD x s = s.remove x.name := by unfold stepD; rw [if_neg k1]; rw [if_neg k2]; rw [if_neg k3]; rw [if_neg k4]; rw [if_neg k5]; rw [if_neg k6]; rw [if_pos k7]
    rw [hst]
    have g1 : (x.kind == 1) = false := by simp [k1]
    have g2 : (x.kind == 2) = false := by simp [k2]
    have g3 : (x.kind == 3) = false := by simp [k3]
    have g4 : (x.kind == 4) = false := by simp [k4]
    have g5 : (x.kind == 5) = false := by simp [k5]
    have g6 : (x.kind == 6) = false := by simp [k6]
    have g7 : (x.kind == 7) = true := by simp [k7]
    clear hst k1 k2 k3 k4 k5 k6 k7
    have hcr := h1.remove hx.name hok hN
    go_enter Tryz.func10, Tryz.ntmps10
    go_wp2_with (first | rw [HW.out] | (go_at_call 98; refine hcr.mono ?_; rintro _ w2 ⟨rfl, hq⟩))
    go_ret
    obtain ⟨F', G', q1, q2⟩ := hq
    exact ⟨rfl, F', G', q1, q2.after hb1⟩
  have hst : stepD x s = (s, 0) := by unfold stepD; rw [if_neg k1, if_neg k2, if_neg k3, if_neg k4, if_neg k5, if_neg k6, if_neg k7]
  rw [hst]
  have g1 : (x.kind == 1) = false := by simp [k1]
  have g2 : (x.kind == 2) = false := by simp [k2]
  have g3 : (x.kind == 3) = false := by simp [k3]
  have g4 : (x.kind == 4) = false := by simp [k4]
  have g5 : (x.kind == 5) = false := by simp [k5]
  have g6 : (x.kind == 6) = false := by simp [k6]
  have g7 : (x.kind == 7) = false := by simp [k7]
  clear hst k1 k2 k3 k4 k5 k6 k7
  go_enter Tryz.func10, Tryz.ntmps10
  go_wp2_with (rw [HW.out])
  go_ret
  exact ⟨rfl, F, G, h1, (Moved.refl hlt.1 hlt.2.1).after hb1⟩
set_option maxRecDepth 100000 in
set_option maxHeartbeats 8000000 in
theorem asked_dev {F G : Nat → Prop} {w : World} {pf pd : Nat} {f : FSt} (h : FaultAt F G w pf pd f) {x : AOp} (hx : x.Ok) {da : Option Addr} {dc : Nat} (hrow : RowAt w da (x.data.map bv)) (hnil : da = none → dc = 0) {N : Nat} (hok : f.disk.Ok N) (hN : N + 1 < maxList) (hdn : f.done.length < 1048576) (hfl : f.full.length ≤ 4194304) :
    Calls Tryz.prog 10 #[.iface 36 (.pointer (some ⟨pf, 0, none⟩)), .agg (encO x da dc)] w fun e w' => e = .returned (.int .i64 (stepF x f).2) ∧ ∃ F' G', FaultAt F' G' w' pf pd (stepF x f).1 ∧ Moved F G F' G' w w' := by
  have hmax : maxLen = 9223372036854775807 := rfl
  obtain ⟨i0, hi, hz0, hz1, hz2⟩ := info_parts Tryz.info5
  obtain ⟨w1, hw1⟩ : ∃ w1, w.alloc (.cells (encO x da dc) 44) = w1 := ⟨_, rfl⟩
  have hb1 : Below w.heap.size w w1 := by rw [← hw1]; exact below_alloc _ _
  have hB : w1.heap[w.heap.size]? = some (.cells (encO x da dc) 44 (0, 0)) := by rw [← hw1]; exact World.alloc_heap_new w _
  have b0 := cell_of_heap hB (i := 0) (v := .int .i64 x.kind) rfl
  have b3 := cell_of_heap hB (i := 3) (v := .string ⟨x.name.toArray⟩) rfl
  have b4 := cell_of_heap hB (i := 4) (v := .string ⟨x.dst.toArray⟩) rfl
  have b5 := cell_of_heap hB (i := 5) (v := .int .i64 x.at_) rfl
  have b6 := cell_of_heap hB (i := 6) (v := .slice da x.data.length dc) rfl
  have h1 := h.below hb1
  have hlt := h1.lt
  have hr1 := hrow.below hb1
  have hln := hx.data
  have hzz := hb1.size
  have HB := Lib.hid hB
  unfold encO at hw1 ⊢
  have HW := Lib.hid hw1
  clear hw1 hB
  have fin : ∀ {k : Int} {R : Prop}, R → (e : Ending) → True := fun _ _ => trivial
  clear fin
  by_cases k1 : x.kind = 1
  · have hst : stepF x f = f.ask ⟨1, x.name, [], 0, 0, 0⟩ (f.disk.create x.name) := by unfold stepF; rw [if_pos k1]
    rw [hst]
    have g1 : (x.kind == 1) = true := by simp [k1]
    clear hst k1
    have hcr := h1.create hx.name hok hN hdn hfl
    go_enter Tryz.func10, Tryz.ntmps10
    go_wp2_with (first | rw [HW.out] | (go_at_call 16; refine hcr.mono ?_; rintro _ w2 ⟨rfl, hq⟩))
    go_ret
    obtain ⟨F', G', q1, q2⟩ := hq
    exact ⟨rfl, F', G', q1, q2.after hb1⟩
  by_cases k2 : x.kind = 2
  · have hst : stepF x f = f.ask ⟨2, x.name, [], x.at_, (x.data.length : Int), 0⟩ (f.disk.put x.name x.at_ x.data) := by unfold stepF; rw [if_neg k1]; rw [if_pos k2]
    rw [hst]
    have g1 : (x.kind == 1) = false := by simp [k1]
    have g2 : (x.kind == 2) = true := by simp [k2]
    clear hst k1 k2
    have HNB := Lib.hid (fun hf : F w.heap.size => by have := h.lt.1 _ hf; omega : ¬ F w.heap.size)
    have HPF := Lib.hid (h.lt.1 _ h.lt.2.2.2 : pf < w.heap.size)
    go_enter Tryz.func10, Tryz.ntmps10
    go_upto_region 5 with (rw [HW.out])
    refine wp_region_held_drew (S := fun w' => w'.cell? ⟨w.heap.size, 3, none⟩ = some (.string ⟨x.name.toArray⟩) ∧ w'.cell? ⟨w.heap.size, 5, none⟩ = some (.int .i64 x.at_) ∧ w'.cell? ⟨w.heap.size, 6, none⟩ = some (.slice da x.data.length dc)) (by kernel_rfl) (⟨b3, b5, b6⟩) (fun hHeld => ?_)
    refine wpAnyH_take (i := 0) (v := ?_) rfl (by kernel_rfl) (by kernel_rfl) (by kernel_rfl) (fun _ _ _ h => h) (Or.inl ⟨by rfl, ?_⟩) hHeld ?_
    rotate_left
    · intro w hSw; (try dsimp only at hSw); go_simp
      all_goals (with_reducible rfl)
    (try simp only [Act.put, List.getElem_toArray, List.getElem_cons_succ, List.getElem_cons_zero, List.setIfInBounds_toArray, List.set_cons_zero, List.set_cons_succ])
    refine wpAnyH_take (i := 1) (v := ?_) rfl (by kernel_rfl) (by kernel_rfl) (by kernel_rfl) (fun _ _ _ h => h) (Or.inl ⟨by rfl, ?_⟩) hHeld ?_
    rotate_left
    · intro w hSw; (try dsimp only at hSw); go_simp
      all_goals (with_reducible rfl)
    (try simp only [Act.put, List.getElem_toArray, List.getElem_cons_succ, List.getElem_cons_zero, List.setIfInBounds_toArray, List.set_cons_zero, List.set_cons_succ])
    refine wpAnyH_take (i := 2) (v := ?_) rfl (by kernel_rfl) (by kernel_rfl) (by kernel_rfl) (fun _ _ _ h => h) (Or.inl ⟨by rfl, ?_⟩) hHeld ?_
    rotate_left
    · intro w hSw; (try dsimp only at hSw); go_simp
      all_goals (with_reducible rfl)
    (try simp only [Act.put, List.getElem_toArray, List.getElem_cons_succ, List.getElem_cons_zero, List.setIfInBounds_toArray, List.set_cons_zero, List.set_cons_succ])
    refine wpAnyH_take (i := 3) (v := ?_) rfl (by kernel_rfl) (by kernel_rfl) (by kernel_rfl) (fun _ _ _ h => h) (Or.inl ⟨by rfl, ?_⟩) hHeld ?_
    rotate_left
    · intro w hSw; (try dsimp only at hSw); go_simp
      all_goals (with_reducible rfl)
    (try simp only [Act.put, List.getElem_toArray, List.getElem_cons_succ, List.getElem_cons_zero, List.setIfInBounds_toArray, List.set_cons_zero, List.set_cons_succ])
    refine wpAnyH_take (i := 4) (v := ?_) rfl (by kernel_rfl) (by kernel_rfl) (by kernel_rfl) (fun _ _ _ h => h) (Or.inl ⟨by rfl, ?_⟩) hHeld ?_
    rotate_left
    · intro w hSw; (try dsimp only at hSw); go_simp
      all_goals (with_reducible rfl)
    (try simp only [Act.put, List.getElem_toArray, List.getElem_cons_succ, List.getElem_cons_zero, List.setIfInBounds_toArray, List.set_cons_zero, List.set_cons_succ])
    refine wpAnyH_take (i := 6) (v := ?_) rfl (by kernel_rfl) (by kernel_rfl) (by kernel_rfl) (fun _ _ _ h => h) (Or.inl ⟨by rfl, ?_⟩) hHeld ?_
    rotate_left
    · intro w hSw; (try dsimp only at hSw); go_simp
      all_goals (with_reducible rfl)
    (try simp only [Act.put, List.getElem_toArray, List.getElem_cons_succ, List.getElem_cons_zero, List.setIfInBounds_toArray, List.set_cons_zero, List.set_cons_succ])
    refine wpAnyH_take (i := 7) (v := ?_) rfl (by kernel_rfl) (by kernel_rfl) (by kernel_rfl) (fun _ _ _ h => h) (Or.inl ⟨by rfl, ?_⟩) hHeld ?_
    rotate_left
    · intro w hSw; (try dsimp only at hSw); go_simp
      all_goals (with_reducible rfl)
    (try simp only [Act.put, List.getElem_toArray, List.getElem_cons_succ, List.getElem_cons_zero, List.setIfInBounds_toArray, List.set_cons_zero, List.set_cons_succ])
    refine wpAnyH_take (i := 9) (v := ?_) rfl (by kernel_rfl) (by kernel_rfl) (by kernel_rfl) (fun _ _ _ h => h) (Or.inl ⟨by rfl, ?_⟩) hHeld ?_
    rotate_left
    · intro w hSw; (try dsimp only at hSw); go_simp
      all_goals (with_reducible rfl)
    (try simp only [Act.put, List.getElem_toArray, List.getElem_cons_succ, List.getElem_cons_zero, List.setIfInBounds_toArray, List.set_cons_zero, List.set_cons_succ])
    refine wpAnyH_take (i := 10) (v := .func (.method "Write") #[.iface 36 (.pointer (some ⟨pf, 0, none⟩))] #[]) rfl (by kernel_rfl) (by kernel_rfl) (by kernel_rfl) (fun _ _ _ h => h) (Or.inl ⟨by rfl, ?_⟩) hHeld ?_
    · intro w hSw; (try dsimp only at hSw); go_simp
      all_goals kernel_rfl
    (try simp only [Act.put, List.getElem_toArray, List.getElem_cons_succ, List.getElem_cons_zero, List.setIfInBounds_toArray, List.set_cons_zero, List.set_cons_succ])
    refine wpAnyH_take (i := 11) (v := ?_) rfl (by kernel_rfl) (by kernel_rfl) (by kernel_rfl) (fun _ _ _ h => h) (Or.inl ⟨by rfl, ?_⟩) hHeld ?_
    rotate_left
    · intro w hSw; (try dsimp only at hSw); go_simp
      all_goals (with_reducible rfl)
    (try simp only [Act.put, List.getElem_toArray, List.getElem_cons_succ, List.getElem_cons_zero, List.setIfInBounds_toArray, List.set_cons_zero, List.set_cons_succ])
    refine wpAnyH_ready (rs := [5]) (by kernel_rfl) (by simp) ?_
    refine AllReadyH.cons rfl (fun K hK => ?_) AllReadyH.nil
    go_simp
    have hca : Chg (fun _ => False) w1 (w1.alloc (.cells #[] 5)) := Chg.alloc _ _ _
    have hba : Below w1.heap.size w1 (w1.alloc (.cells #[] 5)) := below_alloc _ _
    have d3 := hca.cell b3 (fun h => h)
    have d5 := hca.cell b5 (fun h => h)
    have d6 := hca.cell b6 (fun h => h)
    have hv0 := ownsRow_lit w1 w1.heap.size #[] 5 1 0 (Nat.le_refl _) (by omega) rfl

    refine hK.out _ _ (⟨d3, d5, d6⟩) (fun hHeld => ?_)
    clear hK K
    (try simp only [Act.put, List.getElem_toArray, List.getElem_cons_succ, List.getElem_cons_zero, List.setIfInBounds_toArray, List.set_cons_zero, List.set_cons_succ])
    refine wpAnyH_ready (rs := [8]) (by kernel_rfl) (by simp) ?_
    refine AllReadyH.cons rfl (fun K hK => ?_) AllReadyH.nil
    rw [if_pos (by rfl)]
    refine wp_append_src (.tmp 20) (.tmp 22) 42 rfl w1.heap.size 5 i0 (.int .u8 0) 1 Tryz.underlying42 hi hz0 hz1 hz2 rfl (.slice (some ⟨w1.heap.size, 0, none⟩) 0 0) 0 [] rfl hv0 da x.data.length dc (x.data.map bv) rfl (by simp) hnil (fun hh => (hr1.below hba) hh) (by intro u hu; obtain ⟨y, _, rfl⟩ := List.mem_map.1 hu; rfl) (by omega) (by omega) (by rw [World.size_drew, World.size_alloc]; omega) ?_
    intro v2 w2 hv2 hg2
    rw [Nat.zero_add, List.nil_append] at hv2
    obtain ⟨va, vc, rfl, _, vnil, _⟩ := ownsRow_at hv2
    have hb2 : Below w1.heap.size w1 w2 := (((Chg.alloc (fun b => b = w1.heap.size) w1 (.cells #[] 5)).drew).trans (Chg.of_grown (O := fun b => b = w1.heap.size) hg2 (fun k e _ => by have e : w1.heap.size = k := (by simpa [Value.ownBlock] using e); exact e.symm)) (fun _ h _ => h)).below (fun k h => by omega)
    have e3 := (hb2.cell (p := ⟨w.heap.size, 3, none⟩) (cell_lt b3)).trans b3
    have e5 := (hb2.cell (p := ⟨w.heap.size, 5, none⟩) (cell_lt b5)).trans b5
    have e6 := (hb2.cell (p := ⟨w.heap.size, 6, none⟩) (cell_lt b6)).trans b6
    have hrow2 : RowAt w2 va (x.data.map bv) := by
      obtain ⟨a', c', e', hr, _⟩ := RowAt.of_owns hv2
      cases e'; exact hr
    have h2 := h1.below hb2
    have hvb : ∀ y, va = some y → w1.heap.size ≤ y.block := fun y e => by subst e; exact (hv2.lt _ rfl).1

    refine hK.out _ _ (⟨e3, e5, e6⟩) (fun hHeld => ?_)
    clear hK K
    (try simp only [Act.put, List.getElem_toArray, List.getElem_cons_succ, List.getElem_cons_zero, List.setIfInBounds_toArray, List.set_cons_zero, List.set_cons_succ])
    refine wpAnyH_ready (rs := [12]) (by kernel_rfl) (by simp) ?_
    refine AllReadyH.cons rfl (fun K hK => ?_) AllReadyH.nil
    go_simp
    have hcr := h2.put hx.name hrow2 vnil (by omega) (fun y e hp => by have := hvb y e; have := HPF.out; omega) hx.at64 hok hN hdn hfl
    go_wp2_with (go_at_call 17; refine hcr.mono ?_; rintro _ w3 ⟨rfl, hq⟩)
    have MV : Chg F w2 w3 := by obtain ⟨_, _, _, q⟩ := hq; exact q.1
    have hnb : ¬ F w.heap.size := fun hf => HNB.out hf
    have f3 := MV.cell e3 hnb
    have f5 := MV.cell e5 hnb
    have f6 := MV.cell e6 hnb

    refine hK.out _ _ (⟨f3, f5, f6⟩) (fun hHeld => ?_)
    clear hK K
    (try simp only [Act.put, List.getElem_toArray, List.getElem_cons_succ, List.getElem_cons_zero, List.setIfInBounds_toArray, List.set_cons_zero, List.set_cons_succ])
    refine wpAnyH_take (i := 13) (v := ?_) rfl (by kernel_rfl) (by kernel_rfl) (by kernel_rfl) (fun _ _ _ h => h) (Or.inl ⟨by rfl, ?_⟩) hHeld ?_
    rotate_left
    · intro w hSw; (try dsimp only at hSw); go_simp
      all_goals (with_reducible rfl)
    (try simp only [Act.put, List.getElem_toArray, List.getElem_cons_succ, List.getElem_cons_zero, List.setIfInBounds_toArray, List.set_cons_zero, List.set_cons_succ])
    refine wpAnyH_done (by kernel_rfl) ?_ _
    clear hHeld
    have HQ := Lib.hid hq
    clear hq
    go_wp2
    go_ret
    obtain ⟨F', G', q1, q2⟩ := HQ.out
    exact ⟨rfl, F', G', q1, q2.after (hb1.trans (hb2.mono hb1.size))⟩
  by_cases k3 : x.kind = 3
  · have hst : stepF x f = f.ask ⟨3, x.name, [], x.at_, 0, 0⟩ (f.disk.cut x.name x.at_) := by unfold stepF; rw [if_neg k1]; rw [if_neg k2]; rw [if_pos k3]
    rw [hst]
    have g1 : (x.kind == 1) = false := by simp [k1]
    have g2 : (x.kind == 2) = false := by simp [k2]
    have g3 : (x.kind == 3) = true := by simp [k3]
    clear hst k1 k2 k3
    have hcr := h1.cut hx.name hx.at64 hok hN hdn hfl
    go_enter Tryz.func10, Tryz.ntmps10
    go_wp2_with (first | rw [HW.out] | (go_at_call 122; refine hcr.mono ?_; rintro _ w2 ⟨rfl, hq⟩))
    go_ret
    obtain ⟨F', G', q1, q2⟩ := hq
    exact ⟨rfl, F', G', q1, q2.after hb1⟩
  by_cases k4 : x.kind = 4
  · have hst : stepF x f = f.ask ⟨4, x.name, [], 0, 0, 0⟩ (f.disk.sync x.name) := by unfold stepF; rw [if_neg k1]; rw [if_neg k2]; rw [if_neg k3]; rw [if_pos k4]
    rw [hst]
    have g1 : (x.kind == 1) = false := by simp [k1]
    have g2 : (x.kind == 2) = false := by simp [k2]
    have g3 : (x.kind == 3) = false := by simp [k3]
    have g4 : (x.kind == 4) = true := by simp [k4]
    clear hst k1 k2 k3 k4
    have hcr := h1.sync hx.name hok hN hdn hfl
    go_enter Tryz.func10, Tryz.ntmps10
    go_wp2_with (first | rw [HW.out] | (go_at_call 18; refine hcr.mono ?_; rintro _ w2 ⟨rfl, hq⟩))
    go_ret
    obtain ⟨F', G', q1, q2⟩ := hq
    exact ⟨rfl, F', G', q1, q2.after hb1⟩
  by_cases k5 : x.kind = 5
  · have hst : stepF x f = f.ask ⟨5, [], [], 0, 0, 0⟩ f.disk.syncNames := by unfold stepF; rw [if_neg k1]; rw [if_neg k2]; rw [if_neg k3]; rw [if_neg k4]; rw [if_pos k5]
    rw [hst]
    have g1 : (x.kind == 1) = false := by simp [k1]
    have g2 : (x.kind == 2) = false := by simp [k2]
    have g3 : (x.kind == 3) = false := by simp [k3]
    have g4 : (x.kind == 4) = false := by simp [k4]
    have g5 : (x.kind == 5) = true := by simp [k5]
    clear hst k1 k2 k3 k4 k5
    have hcr := h1.syncNames  hok hN hdn hfl
    go_enter Tryz.func10, Tryz.ntmps10
    go_wp2_with (first | rw [HW.out] | (go_at_call 125; refine hcr.mono ?_; rintro _ w2 ⟨rfl, hq⟩))
    go_ret
    obtain ⟨F', G', q1, q2⟩ := hq
    exact ⟨rfl, F', G', q1, q2.after hb1⟩
  by_cases k6 : x.kind = 6
  · have hst : stepF x f = f.ask ⟨6, x.name, x.dst, 0, 0, 0⟩ (f.disk.rename x.name x.dst) := by unfold stepF; rw [if_neg k1]; rw [if_neg k2]; rw [if_neg k3]; rw [if_neg k4]; rw [if_neg k5]; rw [if_pos k6]
    rw [hst]
    have g1 : (x.kind == 1) = false := by simp [k1]
    have g2 : (x.kind == 2) = false := by simp [k2]
    have g3 : (x.kind == 3) = false := by simp [k3]
    have g4 : (x.kind == 4) = false := by simp [k4]
    have g5 : (x.kind == 5) = false := by simp [k5]
    have g6 : (x.kind == 6) = true := by simp [k6]
    clear hst k1 k2 k3 k4 k5 k6
    have hcr := h1.rename hx.name hx.dst hok hN hdn hfl
    go_enter Tryz.func10, Tryz.ntmps10
    go_wp2_with (first | rw [HW.out] | (go_at_call 124; refine hcr.mono ?_; rintro _ w2 ⟨rfl, hq⟩))
    go_ret
    obtain ⟨F', G', q1, q2⟩ := hq
    exact ⟨rfl, F', G', q1, q2.after hb1⟩
  by_cases k7 : x.kind = 7
  · have hst : stepF x f = f.ask ⟨7, x.name, [], 0, 0, 0⟩ (f.disk.remove x.name) := by unfold stepF; rw [if_neg k1]; rw [if_neg k2]; rw [if_neg k3]; rw [if_neg k4]; rw [if_neg k5]; rw [if_neg k6]; rw [if_pos k7]
    rw [hst]
    have g1 : (x.kind == 1) = false := by simp [k1]
    have g2 : (x.kind == 2) = false := by simp [k2]
    have g3 : (x.kind == 3) = false := by simp [k3]
    have g4 : (x.kind == 4) = false := by simp [k4]
    have g5 : (x.kind == 5) = false := by simp [k5]
    have g6 : (x.kind == 6) = false := by simp [k6]
    have g7 : (x.kind == 7) = true := by simp [k7]
    clear hst k1 k2 k3 k4 k5 k6 k7
    have hcr := h1.remove hx.name hok hN hdn hfl
    go_enter Tryz.func10, Tryz.ntmps10
    go_wp2_with (first | rw [HW.out] | (go_at_call 123; refine hcr.mono ?_; rintro _ w2 ⟨rfl, hq⟩))
    go_ret
    obtain ⟨F', G', q1, q2⟩ := hq
    exact ⟨rfl, F', G', q1, q2.after hb1⟩
  have hst : stepF x f = (f, 0) := by unfold stepF; rw [if_neg k1, if_neg k2, if_neg k3, if_neg k4, if_neg k5, if_neg k6, if_neg k7]
  rw [hst]
  have g1 : (x.kind == 1) = false := by simp [k1]
  have g2 : (x.kind == 2) = false := by simp [k2]
  have g3 : (x.kind == 3) = false := by simp [k3]
  have g4 : (x.kind == 4) = false := by simp [k4]
  have g5 : (x.kind == 5) = false := by simp [k5]
  have g6 : (x.kind == 6) = false := by simp [k6]
  have g7 : (x.kind == 7) = false := by simp [k7]
  clear hst k1 k2 k3 k4 k5 k6 k7
  go_enter Tryz.func10, Tryz.ntmps10
  go_wp2_with (rw [HW.out])
  go_ret
  exact ⟨rfl, F, G, h1, (Moved.refl hlt.1 hlt.2.1).after hb1⟩

end Go.Proofs.YtehmnmpkfbginaaGreat
