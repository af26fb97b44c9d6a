/- Texts of this claim, one behind the other: RdN. -/
import Derived.Test.YtgckcnnnblggbaaGreatSt25
set_option linter.unusedSimpArgs false
set_option linter.unusedVariables false
/- The document's disk: Sync. -/
namespace Go.Proofs.YtgckcnnnblggbaaGreat
open Go.RowKit Go.Maps

theorem flatK {α : Type} (k : Nat) (f : α → List Value) : ∀ (l : List α) (i : Nat) (x : α), l[i]? = some x → (∀ y ∈ l, (f y).length = k) → ∀ (j : Nat) u, j < k → (f x)[j]? = some u → ((l.map f).flatten)[i * k + j]? = some u := by
  intro l
  induction l with
  | nil => intro i x hx; simp at hx
  | cons c r ih =>
    intro i x hx hl j u hj hu
    have hc2 := hl c List.mem_cons_self
    rw [List.map_cons, List.flatten_cons]
    cases i with
    | zero =>
      obtain rfl : c = x := by simpa using hx
      rw [List.getElem?_append_left (by omega)]; simpa using hu
    | succ i =>
      have e : (i + 1) * k = i * k + k := Nat.succ_mul i k
      rw [List.getElem?_append_right (by omega), show (i + 1) * k + j - (f c).length = i * k + j from by omega]
      exact ih i x (by simpa using hx) (fun y hy => hl y (List.mem_cons_of_mem _ hy)) j u hj hu
theorem zip_self {α β : Type} : ∀ (P : List (α × β)), (P.map (·.1)).zip (P.map (·.2)) = P
  | [] => rfl
  | p :: P => by simp only [List.map_cons, List.zip_cons_cons, zip_self P]
theorem filter_take_succ {α : Type} (q : α → Bool) {l : List α} {n : Nat} {x : α} (hx : l[n]? = some x) : (l.take (n + 1)).filter q = (l.take n).filter q ++ (if q x then [x] else []) := by
  obtain ⟨h, e⟩ := List.getElem?_eq_some_iff.1 hx
  rw [List.take_succ_eq_append_getElem h, e, List.filter_append]
  cases hq : q x <;> simp [hq]
/-- the writes that stay, with their bytes -/
def stayP (l : List Wr) (us : List Value) (f : Nat) (n : Nat) : List (Wr × Value) := ((l.zip us).take n).filter (fun p => !(p.1.file == f))
theorem stayP_len (l : List Wr) (us : List Value) (f n : Nat) : (stayP l us f n).length ≤ n := by
  unfold stayP
  exact Nat.le_trans (List.length_filter_le _ _) (by simp; omega)
theorem stayP_map (l : List Wr) (us : List Value) (f : Nat) (h : us.length = l.length) : (stayP l us f l.length).map (·.1) = l.filter (fun x => !(x.file == f)) := by
  unfold stayP
  rw [List.take_of_length_le (by rw [List.length_zip]; omega), show (fun p : Wr × Value => !(p.1.file == f)) = (fun x : Wr => !(x.file == f)) ∘ (·.1) from rfl, ← List.filter_map]
  congr 1
  induction l generalizing us with
  | nil => rfl
  | cons x l ih =>
    cases us with
    | nil => cases h
    | cons u us => simp only [List.zip_cons_cons, List.map_cons, ih us (by simpa using h)]
theorem encX_four : ∀ y : Wr × Value, (encX y).length = 4 := fun _ => rfl
theorem RowW.stay {w w' : World} {O R R' : Nat → Prop} {lo : Nat} {v : Value} {l : List Wr} {us : List Value} {f : Nat} (hb : ∀ (i : Nat) u x, us[i]? = some u → l[i]? = some x → BytesIn w R u x.data) (hl : us.length = l.length) (hc : Chg O w w') (hO : ∀ b, R b → ¬ O b)
    (h : w'.ownsRow lo 124 4 v (stayP l us f l.length).length (((stayP l us f l.length).map encX).flatten)) (hR : ∀ b, R b → R' b) (hn : ∀ b, lo ≤ b → b < w'.heap.size → R' b) : RowW w' R' v (l.filter (fun x => !(x.file == f))) := by
  have hm := stayP_map l us f hl
  rw [← hm]
  refine ⟨(stayP l us f l.length).map (·.2), by simp, ?_, fun i u x hu hx => ?_, fun b hb => hn b (h.lt b hb).1 (h.lt b hb).2⟩
  · rw [zip_self, List.length_map]; exact ownsRow_base_le h (Nat.zero_le _)
  · rw [List.getElem?_map] at hu hx
    cases hp : (stayP l us f l.length)[i]? with
    | none => rw [hp] at hu; cases hu
    | some p =>
      rw [hp] at hu hx
      simp only [Option.map_some, Option.some.injEq] at hu hx
      subst hu; subst hx
      have hmem := List.mem_of_getElem? hp
      unfold stayP at hmem
      have hz := List.mem_of_mem_take (List.mem_filter.1 hmem).1
      obtain ⟨k, hk, e⟩ := List.mem_iff_getElem.1 hz
      rw [List.length_zip] at hk
      rw [List.getElem_zip] at e
      have := hb k us[k] l[k] (by simp) (by simp)
      rw [← e]
      exact this.kept hc hO hR
theorem map_sync_fst {s : DSt} (f : Nat) (A : List UInt8) : (s.files.set f (s.stands f, A)).map (·.1) = s.files.map (·.1) := by
  rw [List.map_set]
  apply List.ext_getElem?
  intro i
  rw [List.getElem?_set]
  split
  · rename_i h
    subst h
    rw [List.length_map]
    split
    · rename_i h
      simp only [DSt.stands, List.getD_eq_getElem?_getD, List.getElem?_map, List.getElem?_eq_getElem h, Option.getD_some, Option.map_some]
    · rename_i h
      rw [List.getElem?_map, List.getElem?_eq_none (by omega)]; rfl
  · rfl

section
variable {w : World} {r : Nat} {s : DSt} {R : Nat → Prop} {N : Nat}
set_option maxRecDepth 100000 in
set_option maxHeartbeats 8000000 in
theorem rSync_any (h : RAt w r s R) (hk : s.Ok N) (hN : N ≤ 4194304) (k : List UInt8) :
    Calls Tryz.prog 44 #[.pointer (some ⟨r, 0, none⟩), .string ⟨k.toArray⟩] w fun e w' => e = .returned (.int .i64 ((s.sync k).2 : Int)) ∧ RTurns w w' r (s.sync k).1 R := by
  have hmax : maxLen = 9223372036854775807 := rfl
  obtain ⟨i0, hi, hz0, hz1, hz2⟩ := info_parts Tryz.info36
  obtain ⟨i1, hi1, hw0, hw1', hw2⟩ := info_parts Tryz.info124
  have h0 := h
  have hrl := h.r_lt
  obtain ⟨vst, vla, vna, vsu, vsp, vwr, e, h⟩ := h
  have hd := hk.done
  have hn := hk.manyNames
  have hf := hk.manyFiles
  have hww := hk.manyWrites
  have hnames := hk.names
  have c7 := cell_of_heap h.cells (i := 7) (v := .int .i64 (s.done : Int)) (by rfl)
  have z7 := frozen_of_heap (i := 7) h.cells
  have e7 : IntKind.i64.wrap ((s.done : Int) + 1) = (s.done : Int) + 1 := Go.IntWalk.i64_in _ (by omega)
  have ht := h.ticked
  have hc1 : Chg (· = r) w (w.setCell ⟨r, 7, none⟩ (.int .i64 ((s.done : Int) + 1))) := Chg.set _ rfl
  obtain ⟨w1, hw1⟩ : ∃ w1, w.setCell ⟨r, 7, none⟩ (.int .i64 ((s.done : Int) + 1)) = w1 := ⟨_, rfl⟩
  rw [hw1] at ht hc1
  have c3 := cell_of_heap ht.cells (i := 3) (v := vna) (by rfl)
  have hfd := rfind_any ht.names.1 k (by show s.names.length ≤ _; omega)
  obtain ⟨na, nc, rfl, _⟩ := h.names.1.at_
  cases hq : nlFind s.names k with
  | none =>
    have e1 : findI s.tick.names k = -1 := by show findI s.names k = -1; unfold findI; rw [hq]
    have e2 : s.sync k = (s.tick, 7) := by unfold DSt.sync; rw [hq]
    rw [e1] at hfd
    rw [e2]
    clear e1 e2 hq hnames
    go_enter Tryz.func44, Tryz.ntmps44
    go_wp2_with (first | rw [hw1] | (go_at_call 75; refine hfd.mono ?_; rintro _ w2 ⟨rfl, rfl⟩))
    go_ret
    exact ⟨rfl, RTurns.of h0 ht hc1⟩
  | some f =>
    have hff := (hnames _ (nlFind_mem' hq)).1
    simp only at hff
    have e1 : findI s.tick.names k = (f : Int) := by show findI s.names k = _; unfold findI; rw [hq]
    have e2 : s.sync k = ({ s with files := s.files.set f (s.stands f, s.stands f), writes := s.writes.filter (fun x => !(x.file == f)), done := s.done + 1 }, 0) := by unfold DSt.sync; rw [hq]
    have j0 : ¬ (f : Int) < 0 := by omega
    have j1 : (0 : Int) ≤ (f : Int) := by omega
    have j2 : (f : Int) < (s.files.length : Int) := by omega
    rw [e1] at hfd
    rw [e2]
    clear e1 e2 hq hnames
    have hOr : ∀ b, R b → ¬ b = r := fun b hb e => h.rOut (e ▸ hb)
    have hob1 := ht.cells
    obtain ⟨la, lc, lxs, rfl, _, hl2, hl3, hl4, hl5, hl6⟩ := ht.lasts.row
    obtain ⟨sa, sc, rfl, _, _, hst⟩ := ht.stand
    obtain ⟨g, ua, uc, rfl, cf, hsB, hRg⟩ := hst f hff
    change w1.cell? ⟨g, f, none⟩ = some (.slice ua (s.stands f).length uc) at cf
    change BytesIn w1 R (.slice ua (s.stands f).length uc) (s.stands f) at hsB
    obtain ⟨wa, wc, _, rfl, _⟩ := ht.writes.row
    simp only [List.length_map] at *
    change List.length lxs = s.files.length at hl3
    have hsz1 := hc1.size
    have hgr := hOr g hRg
    have d1 := cell_of_heap hob1 (i := 1) (v := .slice (some ⟨g, 0, none⟩) s.files.length sc) (by rfl)
    have d2 := cell_of_heap hob1 (i := 2) (v := .slice la s.files.length lc) (by rfl)
    have HT := Lib.hid ht
    have HL6 := Lib.hid hl6
    have HSB := Lib.hid hsB
    clear ht hl6 hsB hst
    go_enter Tryz.func44, Tryz.ntmps44
    go_wp2_with (first | rw [hw1] | rw [hw3] | rw [hw4] | (go_at_call 75; refine hfd.mono ?_; rintro _ w2 ⟨rfl, rfl⟩) | (at_builtin; refine wpList_append_any _ rfl (.const (.slice none 0 0)) (.tmp 29) 81 rfl w1.heap.size 36 i0 (.slice none 0 0) 24 Tryz.underlying81 hi hz0 hz1 hz2 rfl _ 0 [] rfl (World.ownsRow_nil _ _ _ _) la s.files.length lc lxs rfl hl3 hl2 hl4 hl5 (by omega) (by omega) (Nat.le_refl _) ?_; intro v2 w2 hv2 hg2; rw [Nat.zero_add, List.nil_append] at hv2; have hc2 : Chg (fun _ => False) w1 w2 := Chg.of_grown hg2 (fun k e => by cases e); have hz12 := hc2.size; obtain ⟨ga, gc, rfl, _, _, hgat⟩ := ownsRow_cell hv2; obtain ⟨g2, rfl, _⟩ := hgat f (lxs[f]'(by omega)) (by simp); have hg2l := hv2.lt g2 rfl; have hob2 := hc2.obj hob1 (fun h => h); have d21 := cell_of_heap hob2 (i := 1) (v := .slice (some ⟨g, 0, none⟩) s.files.length sc) (by rfl); have cf2 := hc2.cell cf (fun h => h); obtain ⟨⟨u00, m0⟩, mz0, hset⟩ := ownsRow_set hv2 (g := g2) rfl f (by omega) (.slice ua (s.stands f).length uc); have hc23 : Chg (· = g2) w2 (w2.setCell ⟨g2, f, none⟩ (.slice ua (s.stands f).length uc)) := Chg.set _ rfl; obtain ⟨w3, hw3⟩ : ∃ w3, w2.setCell ⟨g2, f, none⟩ (.slice ua (s.stands f).length uc) = w3 := ⟨_, rfl⟩; rw [hw3] at hset hc23; have hc13 : Chg (fun _ => False) w1 w3 := hc2.trans hc23 (fun b h hlt => by have := hg2l.1; subst h; omega); have hob3 := hc13.obj hob1 (fun h => h); have d32 := cell_of_heap hob3 (i := 2) (v := .slice la s.files.length lc) (by rfl); have z32 := frozen_of_heap (i := 2) hob3; have hc34 : Chg (· = r) w3 (w3.setCell ⟨r, 2, none⟩ (.slice (some ⟨g2, 0, none⟩) s.files.length gc)) := Chg.set _ rfl; have hob4 := heap_set_cells (i := 2) (.slice (some ⟨g2, 0, none⟩) s.files.length gc) hob3; obtain ⟨w4, hw4⟩ : ∃ w4, w3.setCell ⟨r, 2, none⟩ (.slice (some ⟨g2, 0, none⟩) s.files.length gc) = w4 := ⟨_, rfl⟩; rw [hw4] at hc34 hob4; clear hgat))
    have hzs3 := hc13.size
    have hzs4 := hc34.size
    have hc14 : Chg (· = r) w1 w4 := (hc13.mono (O' := (· = r)) (fun _ h _ => h.elim)).trans hc34 (fun _ h _ => h)
    have hrl4 := heap_lt hob4
    obtain ⟨us, hu0, hu1, hu2, hu3⟩ := HT.out.writes.kept (R' := R) hc14 hOr (fun _ h => h)
    change us.length = s.writes.length at hu0
    change ∀ (i : Nat) u x, us[i]? = some u → s.writes[i]? = some x → BytesIn w4 R u x.data at hu2
    obtain ⟨wa', wc', ee, _, _, hwat⟩ := ownsRow_cell hu1
    simp only [Value.slice.injEq] at ee
    obtain ⟨rfl, _, rfl⟩ := ee
    change ∀ (i : Nat) u, (((s.writes.zip us).map encX).flatten)[i]? = some u → _ at hwat
    have HWAT := Lib.hid hwat
    have HU2 := Lib.hid hu2
    have hOB4 := Lib.hid hob4
    have ALL := Lib.hid (And.intro hset (And.intro hc23 (And.intro hc13 (And.intro hc34 (And.intro hc14 (And.intro hv2 hOr))))))
    have q6 := cell_of_heap hob4 (i := 6) (v := .slice wa s.writes.length wc) (by rfl)
    clear hwat hu1 hu2 hu3 hset hc23 hc13 hc34 hc14 hv2 hob1 hob2 hob3 d21 d32 z32 cf cf2 d1 d2 mz0 m0 hl4 hl5 hc2 hg2 hOr c3 c7 z7
    go_loopw [7, 8] (fun v i wr => ∃ n : Nat, n ≤ s.writes.length ∧ i = .int .i64 n ∧ Below w4.heap.size w4 wr ∧ wr.ownsRow w4.heap.size 124 4 v (stayP s.writes us f n).length (((stayP s.writes us f n).map encX).flatten)) (fun _ i _ => s.writes.length - (RowKit.intOf i).toNat)
    case atStart => exact ⟨0, by omega, rfl, Below.refl _ _, World.ownsRow_nil _ _ _ _⟩
    case round =>
      obtain ⟨n, hn', rfl, hb, hu⟩ := hrel
      have hsz := hb.size
      have q6r := (Chg.of_below (O := fun _ => False) hb).cell q6 (fun h => h)
      by_cases hlt : n < s.writes.length
      · obtain ⟨x, hx⟩ : ∃ x, s.writes[n]? = some x := ⟨s.writes[n]'hlt, by simp⟩
        obtain ⟨u, hu'⟩ : ∃ u, us[n]? = some u := ⟨us[n]'(by omega), by simp⟩
        have hzp : (s.writes.zip us)[n]? = some (x, u) := by rw [List.getElem?_zip_eq_some]; exact ⟨hx, hu'⟩
        have fl := fun j v (hj : j < 4) (h : (encX (x, u))[j]? = some v) => HWAT.out _ v (flatK 4 encX (s.writes.zip us) n (x, u) hzp (fun y _ => encX_four y) j v hj h)
        obtain ⟨gw, rfl, q0⟩ := fl 0 _ (by omega) rfl
        obtain ⟨gw1, ew1, q1⟩ := fl 1 _ (by omega) rfl
        obtain ⟨gw2, ew2, q2⟩ := fl 2 _ (by omega) rfl
        obtain ⟨gw3, ew3, q3⟩ := fl 3 _ (by omega) rfl
        simp only [Option.some.injEq, Addr.mk.injEq, and_true] at ew1 ew2 ew3
        subst ew1; subst ew2; subst ew3
        have q0r := (Chg.of_below (O := fun _ => False) hb).cell q0 (fun h => h)
        have q1r := (Chg.of_below (O := fun _ => False) hb).cell q1 (fun h => h)
        have q2r := (Chg.of_below (O := fun _ => False) hb).cell q2 (fun h => h)
        have q3r := (Chg.of_below (O := fun _ => False) hb).cell q3 (fun h => h)
        have hfs := filter_take_succ (fun p : Wr × Value => !(p.1.file == f)) hzp
        change stayP s.writes us f (n + 1) = stayP s.writes us f n ++ _ at hfs
        have hsl := stayP_len s.writes us f n
        obtain ⟨ub, uc', rfl, _⟩ := (HU2.out n u x hu' hx).row
        have hj0 : (0 : Int) ≤ (n : Int) := by omega
        have hj1 : (n : Int) < (s.writes.length : Int) := by omega
        rw [Nat.add_zero] at q0r
        clear fl hx hu' hzp q0 q1 q2 q3
        by_cases he : x.file = f
        · have e1 : ((x.file : Int) == (f : Int)) = true := beq_iff_eq.2 (by omega)
          have e2 : ((x.file : Int) != (f : Int)) = false := bne_eq_false_iff_eq.2 (by omega)
          have e3 : (!(x.file == f)) = false := by simpa using he
          simp only [e3, Bool.false_eq_true, if_false, List.append_nil] at hfs
          have HFS := Lib.hid hfs; clear hfs he e3
          go_wp2
          go_roundw
          case rel => exact ⟨n + 1, by omega, by go_num, hb, by rw [HFS.out]; exact hu⟩
          case measure => simp [RowKit.intOf]; omega
        · have e1 : ((x.file : Int) == (f : Int)) = false := beq_eq_false_iff_ne.2 (by omega)
          have e2 : ((x.file : Int) != (f : Int)) = true := bne_iff_ne.2 (by omega)
          have e3 : (!(x.file == f)) = true := by simpa using he
          simp only [e3, if_true] at hfs
          have HFS := Lib.hid hfs; clear hfs he e3
          go_wp2_with (at_builtin; refine wpList_append_anyK _ rfl (.tmp 64) (.tmp 72) 84 rfl w4.heap.size 124 i1 _ 4 48 Tryz.underlying84 hi1 hw0 hw1' hw2 rfl (by decide) _ (stayP s.writes us f n).length _ rfl (World.ownsRow.alloc hu _) (some ⟨wr.heap.size, 0, none⟩) 1 1 (encX (x, .slice ub x.data.length uc')) rfl rfl (fun h => by cases h) (RowAt.of_row (fun j u hu => cell_new wr _ _ j u (by simpa [encX] using hu))) (by simp [encX, Value.oneCell']) (by omega) (by omega) (by rw [World.size_alloc]; omega) ?_; intro v5 w5 hv5 hg5)
          have hb5 : Below w4.heap.size w4 w5 := (hb.alloc hsz _).grown hg5 (by rw [World.size_alloc]; omega) (fun r e => (hu.lt r e).1)
          go_roundw
          case rel => exact ⟨n + 1, by omega, by go_num, hb5, by rw [HFS.out, List.length_append, List.map_append, List.flatten_append]; simpa using hv5⟩
          case measure => simp [RowKit.intOf]; omega
      · obtain rfl : n = s.writes.length := by omega
        have hj1 : ¬ (s.writes.length : Int) < (s.writes.length : Int) := by omega
        have hobr := (Chg.of_below (O := fun _ => False) hb).obj hOB4.out (fun h => h)
        have z6r := frozen_of_heap (i := 6) hobr
        obtain ⟨ua6, uc6, rfl, _⟩ := ownsRow_rowAt hu
        have HOBR := Lib.hid hobr
        clear hobr
        go_wp2
        go_ret
        refine ⟨rfl, ?_⟩
        obtain ⟨hset, hc23, hc13, hc34, hc14, hv2, hOr⟩ := ALL.out
        have hcell7 := heap_set_cells (i := 6) (.slice ua6 (stayP s.writes us f s.writes.length).length uc6) HOBR.out
        have hc67 : Chg (· = r) wr (wr.setCell ⟨r, 6, none⟩ (.slice ua6 (stayP s.writes us f s.writes.length).length uc6)) := Chg.set _ rfl
        generalize wr.setCell ⟨r, 6, none⟩ (.slice ua6 (stayP s.writes us f s.writes.length).length uc6) = w7 at *
        have hc47 : Chg (· = r) w4 w7 := (Chg.of_below (O := (· = r)) hb).trans hc67 (fun _ h _ => h)
        have hc37 : Chg (· = r) w3 w7 := hc34.trans hc47 (fun _ h _ => h)
        have hc17 : Chg (· = r) w1 w7 := hc14.trans hc47 (fun _ h _ => h)
        have hcW : Chg (· = r) w w7 := hc1.trans hc17 (fun _ h _ => h)
        have hm := rmore_ok (w := w) (w' := w7) (r := r) hrl h.rLt h.rOut hcW.size
        have hRM : ∀ b, R b → RMore R w w7 b := fun b hb => .inl hb
        have s67 := hc67.size
        have s37 := hc37.size
        have hg1 := hg2l.1
        have hg2r : ¬ g2 = r := by omega
        refine ⟨⟨_, _, _, _, _, _, e, (?_ : RAtP w7 r _ (RMore R w w7) (.slice (some ⟨g, 0, none⟩) s.files.length sc) (.slice (some ⟨g2, 0, none⟩) s.files.length gc) (.slice na s.names.length nc) vsu vsp (.slice ua6 (stayP s.writes us f s.writes.length).length uc6) e)⟩, hcW⟩
        exact {
          cells := hcell7
          stands := by
            show RowB w7 _ _ ((s.files.set f (s.stands f, s.stands f)).map (·.1))
            rw [map_sync_fst]
            exact h.stands.kept hcW hOr hRM
          lasts := by
            have hu7 := HSB.out.kept (R' := RMore R w w7) hc17 hOr hRM
            have h7 := hc37.row hset (fun b hb e => by cases hb; exact hg2r e)
            show RowB w7 _ _ ((s.files.set f (s.stands f, s.stands f)).map (·.2))
            rw [List.map_set]
            exact RowB.put (l := s.files.map (·.2)) HL6.out hu7 hc17 hOr (by rw [List.length_map]; exact h7) hRM (fun b h1 h2 => .inr ⟨by omega, h2⟩)
          names := h.names.kept hcW hOr hRM
          sure := h.sure.kept hcW hOr hRM
          steps := h.steps.kept hcW hOr hRM
          writes := by
            have h7 := hc67.row hu (fun b hb e => by have := (hu.lt b hb).1; omega)
            exact RowW.stay HU2.out hu0 hc47 hOr h7 hRM (fun b h1 h2 => .inr ⟨by omega, h2⟩)
          rOut := hm.1
          rLt := hm.2 }
end

end Go.Proofs.YtgckcnnnblggbaaGreat
