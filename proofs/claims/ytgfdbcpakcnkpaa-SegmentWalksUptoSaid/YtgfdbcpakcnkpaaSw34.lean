/- Texts of this claim, one behind the other: Shp. -/
import Derived.Test.YtgfdbcpakcnkpaaSd33
import Derived.Test.YtgfdbcpakcnkpaaSd19
import Derived.Test.YtgfdbcpakcnkpaaSd20
set_option linter.unusedSimpArgs false
set_option linter.unusedVariables false
/- SegmentDecodes: the walk. (printed by gen/sdecw.py) -/
namespace Go.Proofs.Ytgfdbcpakcnkpaa
open Go.RowKit Go.Maps

/-- what Decode answers -/
def decV (f : Int) (b : List UInt8) : SegV × Nat := if f < 0 ∨ 4611686018427387904 < f then (SegV.none, 4) else (SegV.of f.toNat b, 0)
theorem dec_any {w : World} {f : Int} {a : Option Addr} {c : Nat} {b : List UInt8} (hrow : RowAt w a (b.map bv)) (hnil : a = none → c = 0) (hcap : b.length ≤ c) (hl : b.length ≤ 140737488350000) :
    Calls Try.prog 21 #[.int .i64 f, .slice a b.length c] w (ScanPost w (decV f b)) := by
  unfold decV
  by_cases hf : f < 0 ∨ 4611686018427387904 < f
  · rw [if_pos hf]
    exact (decode_no hf _).mono fun e w' ⟨h1, h2⟩ => ⟨_, h1, EntIn.nil _ _, h2⟩
  · rw [if_neg hf]
    obtain ⟨n, rfl⟩ := Int.eq_ofNat_of_zero_le (by omega : 0 ≤ f)
    exact (decode_any (by omega) hrow hnil hcap hl).mono fun e w' ⟨es, h1, h2, h3⟩ => ⟨es, h1, h2, h3⟩
theorem rdec_any {w : World} {f : Int} {a : Option Addr} {c : Nat} {b : List UInt8} (hrow : RowAt w a (b.map bv)) (hnil : a = none → c = 0) (hcap : b.length ≤ c) (hl : b.length ≤ 140737488350000) :
    Calls Try.prog 22 #[.int .i64 f, .slice a b.length c] w (ScanPost w (decV f b)) := by
  unfold decV
  by_cases hf : f < 0 ∨ 4611686018427387904 < f
  · rw [if_pos hf]
    exact (rdecode_no hf _).mono fun e w' ⟨h1, h2⟩ => ⟨_, h1, EntIn.nil _ _, h2⟩
  · rw [if_neg hf]
    obtain ⟨n, rfl⟩ := Int.eq_ofNat_of_zero_le (by omega : 0 ≤ f)
    exact (rdecode_any (by omega) hrow hnil hcap hl).mono fun e w' ⟨es, h1, h2, h3⟩ => ⟨es, h1, h2, h3⟩
/-- entries that may be written over -/
theorem EntIn.spoil {R : Nat → Prop} {w : World} {v : Value} {L : List (List UInt8)} (h : EntIn R w v L) (hb : ∀ e ∈ L, e.length ≤ maxLen) : ∃ vs, w.ownsRow 0 26 1 v L.length vs ∧ BytesOk w vs ∧ ∀ x ∈ vs, ∀ b, x.ownBlock = some b → R b := by
  obtain ⟨vs, h1, h2, h3, h4⟩ := h
  have key : ∀ x ∈ vs, ∃ l, l ∈ L ∧ BytesIn w R x l := fun x hx => by
    obtain ⟨i, hi, rfl⟩ := List.getElem_of_mem hx
    exact ⟨L[i]'(by omega), List.getElem_mem _, h4 i _ _ (by simp) (by simp)⟩
  refine ⟨vs, h1, fun x hx => ?_, fun x hx b hb => ?_⟩
  · obtain ⟨l, hl, a, c, rfl, _, _, _, _, _, ho⟩ := key x hx
    refine ⟨l.length, l.map bv, ho, hb l hl, fun y hy => ?_⟩
    obtain ⟨u, _, rfl⟩ := List.mem_map.1 hy
    exact ⟨u, rfl⟩
  · obtain ⟨l, hl, a, c, rfl, _, _, _, hR, h0, _⟩ := key x hx
    cases a with
    | none => cases hb
    | some y =>
      have e0 := h0 y rfl
      rw [e0] at hb
      cases hb
      exact hR y rfl
theorem segFrom_entry (first : Nat) (b : List UInt8) (k : Nat) (s : SegL) (n : Nat) (hs : ∀ e ∈ s.entries, e.length ≤ n) (hb : b.length ≤ n) : ∀ e ∈ (segFrom first b k s).entries, e.length ≤ n := by
  induction k generalizing s with
  | zero => exact hs
  | succ k ih =>
    rw [segFrom]
    split
    · split
      · refine ih _ (fun e he => ?_)
        rcases List.mem_append.1 he with he | he
        · exact hs e he
        · simp only [List.mem_singleton] at he
          subst he
          unfold takeB readB
          rw [List.length_drop, List.length_take, List.length_drop, List.length_drop]
          omega
      · exact hs
    · exact hs
theorem decV_entry (f : Int) (b : List UInt8) : ∀ e ∈ (decV f b).1.entries, e.length ≤ b.length := by
  unfold decV
  split
  · intro e he; cases he
  · exact segFrom_entry _ _ _ _ _ (fun e he => by cases he) (Nat.le_refl _)
theorem segFrom_count (first : Nat) (b : List UInt8) (k : Nat) (s : SegL) (hs : s.entries.length ≤ 4096) : (segFrom first b k s).entries.length ≤ 4096 := by
  induction k generalizing s with
  | zero => exact hs
  | succ k ih =>
    rw [segFrom]
    split
    · split
      · rename_i h1 h2
        refine ih _ ?_
        have h3 : s.entries.length ≠ 4096 := fun e => by unfold atE at h2; rw [if_pos e] at h2; omega
        show (s.entries ++ [_]).length ≤ 4096
        simp; omega
      · exact hs
    · exact hs
theorem decV_count (f : Int) (b : List UInt8) : (decV f b).1.entries.length ≤ 4096 := by
  unfold decV
  split
  · show 0 ≤ 4096; omega
  · exact segFrom_count _ _ _ _ (by show 0 ≤ 4096; omega)
set_option maxHeartbeats 2000000 in
theorem segDecodes_long {w : World} (f : Int) (a : Option Addr) (n c : Nat) (hn : 300000 < n) : Calls Try.prog 4 #[.int .i64 f, .slice a n c] w fun e w' => e = .returned (.bool true) ∧ Below w.heap.size w w' := by
  have hw := works17_any w
  have g1 : decide ((300000 : Int) < (n : Int)) = true := by simp; omega
  clear hn
  go_enter Try.func4, Try.ntmps4
  go_wp2_with (go_at_call 20; refine hw.mono ?_; rintro _ w2 ⟨rfl, hb⟩)
  go_ret
  exact ⟨rfl, hb⟩
theorem mark_row {w : World} {g c : Nat} {l : List UInt8} {u : Value} (h : w.ownsRow 0 5 1 (.slice (some ⟨g, 0, none⟩) (l.length + 1) c) (l.length + 1) (l.map bv ++ [u])) : RowAt w (some ⟨g, 0, none⟩) (l.map bv) := by
  obtain ⟨a', c', e, hr, _⟩ := RowAt.of_owns h
  cases e
  have := hr.take l.length
  rwa [List.take_left' (by simp)] at this
set_option maxRecDepth 100000 in
set_option maxHeartbeats 32000000 in
theorem segDecodes_walk {w : World} (f : Int) {a : Option Addr} {c : Nat} {b : List UInt8} (hrow : RowAt w a (b.map bv)) (hnil : a = none → c = 0) (hcap : b.length ≤ c) (hl : b.length ≤ 300000) :
    Calls Try.prog 4 #[.int .i64 f, .slice a b.length c] w fun e w' => e = .returned (.bool true) ∧ Below w.heap.size w w' := by
  have hmax : maxLen = 9223372036854775807 := rfl
  obtain ⟨i0, hi, hz0, hz1, hz2⟩ := info_parts Try.info5
  obtain ⟨r, hr⟩ : ∃ r, decV f b = r := ⟨_, rfl⟩
  have hent : ∀ e ∈ r.1.entries, e.length ≤ b.length := by rw [← hr]; exact decV_entry f b
  have hcnt : r.1.entries.length ≤ 4096 := by rw [← hr]; exact decV_count f b
  have hD : ∀ (W : World) (a' : Option Addr) (c' : Nat), RowAt W a' (b.map bv) → (a' = none → c' = 0) → b.length ≤ c' → Calls Try.prog 21 #[.int .i64 f, .slice a' b.length c'] W (ScanPost W r) := fun W a' c' h1 h2 h3 => by rw [← hr]; exact dec_any h1 h2 h3 (by omega)
  have hRD : ∀ (W : World), Below w.heap.size w W → Calls Try.prog 22 #[.int .i64 f, .slice a b.length c] W (ScanPost W r) := fun W hW => by rw [← hr]; exact rdec_any (hrow.below hW) hnil hcap (by omega)
  clear hr
  obtain ⟨⟨vf, vl, vg, vz, vy⟩, rn⟩ := r
  simp only at hent hcnt
  have hD : ∀ (W : World) (a' : Option Addr) (c' : Nat), RowAt W a' (b.map bv) → (a' = none → c' = 0) → b.length ≤ c' → Calls Try.prog 21 #[.int .i64 f, .slice a' b.length c'] W fun e w' => ∃ es, e = .returned (.tuple #[.agg #[.int .i64 vf, es, .int .i64 vg, .int .i64 vz, .int .i64 vy], .int .i64 (rn : Int)]) ∧ EntIn (fun x => W.heap.size ≤ x) w' es vl ∧ Below W.heap.size W w' := hD
  have hRD : ∀ (W : World), Below w.heap.size w W → Calls Try.prog 22 #[.int .i64 f, .slice a b.length c] W fun e w' => ∃ es, e = .returned (.tuple #[.agg #[.int .i64 vf, es, .int .i64 vg, .int .i64 vz, .int .i64 vy], .int .i64 (rn : Int)]) ∧ EntIn (fun x => W.heap.size ≤ x) w' es vl ∧ Below W.heap.size W w' := hRD
  have g1 : decide ((300000 : Int) < (b.length : Int)) = false := by simp; omega
  have HD := Lib.hid hD
  have HRD := Lib.hid hRD
  have HROW := Lib.hid hrow
  have HENT := Lib.hid hent
  clear hD hRD hent
  have hblit : Below w.heap.size w (w.alloc (.cells #[] 5)) := below_alloc _ _
  have hlit : (w.alloc (.cells #[] 5)).ownsRow 0 5 1 (.slice (some ⟨w.heap.size, 0, none⟩) 0 0) 0 [] := by simpa using ownsRow_lit w 0 #[] 5 1 0 (by simp) (by decide) rfl
  go_enter Try.func4, Try.ntmps4
  go_upto_region 7 with (first
    | (at_builtin; refine wpList_append_src_at _ rfl (.tmp 17) (.tmp 18) 26 rfl 0 5 i0 (.int .u8 0) 1 Try.underlying26 hi hz0 hz1 hz2 rfl _ 0 [] rfl hlit a b.length c (b.map bv) rfl (by simp) hnil (hrow.below hblit) (by intro u hu; obtain ⟨_, _, rfl⟩ := List.mem_map.1 hu; rfl) (by omega) (by omega) (Nat.zero_le _) ?_; intro v1 w1 r1 g1' at1; rw [Nat.zero_add, List.nil_append] at r1; obtain ⟨a1, c1, rfl, _, _⟩ := RowAt.of_owns r1; have gg1 := Grew.append g1' at1; have hb1 : Below w.heap.size w w1 := hblit.trans (gg1.1.belowLo6 hblit.size (fun x e => by cases e; exact Nat.le_refl _)); have ho1 : ∀ x, (Value.slice a1 b.length c1).ownBlock = some x → w.heap.size ≤ x := (fun x e => by (rcases gg1.2 with q | ⟨g, q, hge⟩); (rw [q] at e; cases e; exact Nat.le_refl _); (rw [q] at e; cases e; have := hblit.size; omega)))
    | (at_builtin; refine wpList_append_own_at _ rfl (.tmp 19) (.tmp 20) 26 rfl 0 5 i0 (.int .u8 0) 1 1 Try.underlying26 hi hz0 hz1 hz2 rfl (by decide) _ b.length _ rfl (r1.alloc _) ⟨w1.heap.size, 0, none⟩ 1 1 [.int .u8 165] rfl rfl (cell_one_new _ _ _) (by simp [Value.oneCell']) (by omega) (by omega) (Nat.zero_le _) ?_; intro v3 w3 r3 g3' _ at3; have gg3 := Grew.append g3' at3; have hb3 : Below w.heap.size w w3 := hb1.trans (((Chg.alloc (fun x => (Value.slice a1 b.length c1).ownBlock = some x) w1 _).trans gg3.1 (fun _ h _ => h)).belowLo6 hb1.size (fun x e => ho1 x e)); obtain ⟨a3, c3, rfl, hc3, _, hat3⟩ := ownsRow_at r3; obtain ⟨g, rfl, hm0⟩ := hat3 b.length (.int .u8 165) (by rw [List.getElem?_append_right (by simp)]; simp); have hgl : w.heap.size ≤ g := (by (rcases gg3.2 with q | ⟨g', q, hge⟩); (exact ho1 g q.symm); (cases q; have := hb1.size; simp at hge; omega)); have hgl2 := (r3.lt g rfl).2; have hmr : RowAt w3 (some ⟨g, 0, none⟩) (b.map bv) := mark_row r3; have hsl := run_slice_hi (P := Try.prog) 26 5 Try.underlying26 Try.sizeOf5 (some ⟨g, 0, none⟩) (b.length + 1) c3 b.length (by omega); have hD3 := HD.out w3 (some ⟨g, 0, none⟩) c3 hmr (fun e => by cases e) (by omega))
    | (go_at_call 21; refine hD3.mono ?_; rintro _ w4 ⟨es4, rfl, hE4, hb4⟩; obtain ⟨ea4, ec4, rfl⟩ := hE4.slice; obtain ⟨w5, hw5⟩ : ∃ w5, w4.alloc (.cells #[.int .i64 vf, .slice ea4 vl.length ec4, .int .i64 vg, .int .i64 vz, .int .i64 vy] 54) = w5 := ⟨_, rfl⟩; have hb5 : Below w4.heap.size w4 w5 := (by rw [← hw5]; exact below_alloc _ _); have hx5 : w5.heap[w4.heap.size]? = some (.cells #[.int .i64 vf, .slice ea4 vl.length ec4, .int .i64 vg, .int .i64 vz, .int .i64 vy] 54 (0, 0)) := (by rw [← hw5]; exact World.alloc_heap_new _ _); have HW5 := Lib.hid hw5; clear hw5 hD3; have hb35 := hb4.trans (hb5.mono hb4.size); have hD5 := HD.out w5 (some ⟨g, 0, none⟩) c3 (hmr.below hb35) (fun e => by cases e) (by omega))
    | rw [HW5.out]
    | (go_at_call 21; refine hD5.mono ?_; rintro _ w6 ⟨es6, rfl, hE6, hb6⟩; obtain ⟨ea6, ec6, rfl⟩ := hE6.slice; obtain ⟨w7, hw7⟩ : ∃ w7, w6.alloc (.cells #[.int .i64 vf, .slice ea6 vl.length ec6, .int .i64 vg, .int .i64 vz, .int .i64 vy] 54) = w7 := ⟨_, rfl⟩; have hb7 : Below w6.heap.size w6 w7 := (by rw [← hw7]; exact below_alloc _ _); have hx7 : w7.heap[w6.heap.size]? = some (.cells #[.int .i64 vf, .slice ea6 vl.length ec6, .int .i64 vg, .int .i64 vz, .int .i64 vy] 54 (0, 0)) := (by rw [← hw7]; exact World.alloc_heap_new _ _); have HW7 := Lib.hid hw7; clear hw7 hD5; have hb57 := hb6.trans (hb7.mono hb6.size); have hb37 := hb35.trans (hb57.mono hb35.size); have hR7 := HRD.out w7 (hb3.trans (hb37.mono hb3.size)))
    | rw [HW7.out]
    | (go_at_call 22; refine hR7.mono ?_; rintro _ w8 ⟨es8, rfl, hE8, hb8⟩; obtain ⟨ea8, ec8, rfl⟩ := hE8.slice; obtain ⟨w9, hw9⟩ : ∃ w9, w8.alloc (.cells #[.int .i64 vf, .slice ea8 vl.length ec8, .int .i64 vg, .int .i64 vz, .int .i64 vy] 54) = w9 := ⟨_, rfl⟩; have hb9 : Below w8.heap.size w8 w9 := (by rw [← hw9]; exact below_alloc _ _); have hx9 : w9.heap[w8.heap.size]? = some (.cells #[.int .i64 vf, .slice ea8 vl.length ec8, .int .i64 vg, .int .i64 vz, .int .i64 vy] 54 (0, 0)) := (by rw [← hw9]; exact World.alloc_heap_new _ _); have HW9 := Lib.hid hw9; clear hw9 hR7)
    | rw [HW9.out])
  have hb79 := hb8.trans (hb9.mono hb8.size)
  have hb39 := hb37.trans (hb79.mono hb37.size)
  have hb59 := hb57.trans (hb79.mono hb57.size)
  have hb09 := hb3.trans (hb39.mono hb3.size)
  have hs3 := hb3.size
  have hs4 := hb4.size
  have hs5 := hb5.size
  have hs6 := hb6.size
  have hs7 := hb7.size
  have hs8 := hb8.size
  have hs9 := hb9.size
  have hx59 := (hb59.block _ (heap_lt hx5)).trans hx5
  have hx79 := (hb79.block _ (heap_lt hx7)).trans hx7
  have hr9 := (Chg.of_below (O := fun _ => False) hb39).row r3 (fun _ _ h => h)
  have hmr9 := hmr.below hb39
  have hE49 := (hE4.lt.below (hb5.trans (hb59.mono hs5)))
  have hE69 := (hE6.lt.below (hb7.trans (hb79.mono hs7)))
  have hE89 := (hE8.lt.below hb9)
  obtain ⟨_, _, e4, hat4⟩ := hE49.at_; cases e4
  obtain ⟨_, _, e8, hat8⟩ := hE89.at_; cases e8
  have HS : Hid (∀ W, Below w9.heap.size w9 W → (fun (w' : World) => w'.cell? ⟨w4.heap.size, 0, none⟩ = some (.int .i64 vf) ∧ w'.cell? ⟨w4.heap.size, 1, none⟩ = some (.slice ea4 vl.length ec4) ∧ w'.cell? ⟨w4.heap.size, 2, none⟩ = some (.int .i64 vg) ∧ w'.cell? ⟨w4.heap.size, 3, none⟩ = some (.int .i64 vz) ∧ w'.cell? ⟨w4.heap.size, 4, none⟩ = some (.int .i64 vy) ∧ w'.cell? ⟨w8.heap.size, 0, none⟩ = some (.int .i64 vf) ∧ w'.cell? ⟨w8.heap.size, 1, none⟩ = some (.slice ea8 vl.length ec8) ∧ w'.cell? ⟨w8.heap.size, 2, none⟩ = some (.int .i64 vg) ∧ w'.cell? ⟨w8.heap.size, 3, none⟩ = some (.int .i64 vz) ∧ w'.cell? ⟨w8.heap.size, 4, none⟩ = some (.int .i64 vy) ∧ w'.cell? ⟨g, b.length, none⟩ = some (.int .u8 165) ∧ (convert 26 9 (.slice (some ⟨g, 0, none⟩) b.length c3)).run Try.prog w' = .ok (.string ⟨b.toArray⟩) w' ∧ (convert 26 9 (.slice a b.length c)).run Try.prog w' = .ok (.string ⟨b.toArray⟩) w') W) := Lib.hid (fun W hW => by
    have k4 := (hW.block _ (heap_lt hx59)).trans hx59
    have k8 := (hW.block _ (heap_lt hx9)).trans hx9
    have km := (hW.cell (p := ⟨g, b.length, none⟩) (by show g < w9.heap.size; have := hb39.size; omega)).trans ((hb39.cell (p := ⟨g, b.length, none⟩) (by show g < w3.heap.size; exact hgl2)).trans hm0)
    exact ⟨cell_of_heap k4 (by rfl), cell_of_heap k4 (by rfl), cell_of_heap k4 (by rfl), cell_of_heap k4 (by rfl), cell_of_heap k4 (by rfl), cell_of_heap k8 (by rfl), cell_of_heap k8 (by rfl), cell_of_heap k8 (by rfl), cell_of_heap k8 (by rfl), cell_of_heap k8 (by rfl), km,
      run_conv (P := Try.prog) 26 9 5 Try.underlying26 Try.underlying5 Try.underlying9 (c := c3) (hmr9.below hW), run_conv (P := Try.prog) 26 9 5 Try.underlying26 Try.underlying5 Try.underlying9 (c := c) ((HROW.out.below hb09).below hW)⟩)
  have hSm := fun (W : World) (hW : Below w9.heap.size w9 W) => rsegSame_any (w := W) (c := ec4) (d := ec8) (f1 := vf) (g1 := vg) (z1 := vz) (y1 := vy) (f2 := vf) (g2 := vg) (z2 := vz) (y2 := vy) (hat4.below hW) (hat8.below hW) (by omega)
  have htrue : (vf == vf && vg == vg && vz == vz && vy == vy && vl == vl) = true := by simp
  rw [htrue] at hSm
  have hSm1 := hSm w9.drew (below_drewN (Below.refl _ w9) 1)
  have j0 : (0 : Int) ≤ (b.length : Int) := by omega
  have j1 : (b.length : Int) < ((b.length + 1 : Nat) : Int) := by omega
  have j1b : (b.length : Int) < (b.length : Int) + 1 := by omega
  have i1 : ((rn : Int) != (rn : Int)) = false := by simp
  have i2 : (b != b) = false := by simp
  have i3 : (b == b) = true := by simp
  have HSM := Lib.hid hSm
  have HX := Lib.hid (And.intro hx59 (And.intro hx79 hx9))
  have HE := Lib.hid (And.intro hE49 (And.intro hE69 hE89))
  have HR9 := Lib.hid hr9
  clear hSm hx59 hx79 hx9 hx5 hx7 hE49 hE69 hE89 hE4 hE6 hE8 hr9 hmr hmr9 hat4 hat8 hrow hlit hm0 hat3 r1 r3 htrue hSm1
  have hSm1 := HSM.out w9.drew (below_drewN (Below.refl _ w9) 1)
  refine wp_region_held_drew (S := fun (w' : World) => w'.cell? ⟨w4.heap.size, 0, none⟩ = some (.int .i64 vf) ∧ w'.cell? ⟨w4.heap.size, 1, none⟩ = some (.slice ea4 vl.length ec4) ∧ w'.cell? ⟨w4.heap.size, 2, none⟩ = some (.int .i64 vg) ∧ w'.cell? ⟨w4.heap.size, 3, none⟩ = some (.int .i64 vz) ∧ w'.cell? ⟨w4.heap.size, 4, none⟩ = some (.int .i64 vy) ∧ w'.cell? ⟨w8.heap.size, 0, none⟩ = some (.int .i64 vf) ∧ w'.cell? ⟨w8.heap.size, 1, none⟩ = some (.slice ea8 vl.length ec8) ∧ w'.cell? ⟨w8.heap.size, 2, none⟩ = some (.int .i64 vg) ∧ w'.cell? ⟨w8.heap.size, 3, none⟩ = some (.int .i64 vz) ∧ w'.cell? ⟨w8.heap.size, 4, none⟩ = some (.int .i64 vy) ∧ w'.cell? ⟨g, b.length, none⟩ = some (.int .u8 165) ∧ (convert 26 9 (.slice (some ⟨g, 0, none⟩) b.length c3)).run Try.prog w' = .ok (.string ⟨b.toArray⟩) w' ∧ (convert 26 9 (.slice a b.length c)).run Try.prog w' = .ok (.string ⟨b.toArray⟩) w') (by kernel_rfl) (HS.out _ (below_drewN (Below.refl _ w9) 1)) (fun hHeld => ?_)
  refine wpAnyH_take (i := 0) (v := ?_) rfl (by kernel_rfl) (by kernel_rfl) (by kernel_rfl) (fun _ _ _ h => h) (Or.inl ⟨by rfl, ?_⟩) hHeld ?_
  rotate_left
  · intro w hSw; (try dsimp only at hSw); go_simp
    all_goals (with_reducible rfl)
  (try simp only [Act.put, List.getElem_toArray, List.getElem_cons_succ, List.getElem_cons_zero, List.setIfInBounds_toArray, List.set_cons_zero, List.set_cons_succ])
  refine wpAnyH_take (i := 1) (v := ?_) rfl (by kernel_rfl) (by kernel_rfl) (by kernel_rfl) (fun _ _ _ h => h) (Or.inl ⟨by rfl, ?_⟩) hHeld ?_
  rotate_left
  · intro w hSw; (try dsimp only at hSw); go_simp
    all_goals (with_reducible rfl)
  (try simp only [Act.put, List.getElem_toArray, List.getElem_cons_succ, List.getElem_cons_zero, List.setIfInBounds_toArray, List.set_cons_zero, List.set_cons_succ])
  refine wpAnyH_ready (rs := [2]) (by kernel_rfl) (by simp) ?_
  refine AllReadyH.cons rfl (fun K hK => ?_) AllReadyH.nil
  go_simp
  refine hSm1.mono ?_
  rintro _ wA ⟨rfl, hbA⟩
  replace hbA : Below w9.heap.size w9 wA := (below_drewN (Below.refl w9.heap.size w9) 1).trans hbA
  refine hK.out _ _ (HS.out _ hbA) (fun hHeld => ?_)
  clear hK K
  (try simp only [Act.put, List.getElem_toArray, List.getElem_cons_succ, List.getElem_cons_zero, List.setIfInBounds_toArray, List.set_cons_zero, List.set_cons_succ])
  refine wpAnyH_take (i := 3) (v := ?_) rfl (by kernel_rfl) (by kernel_rfl) (by kernel_rfl) (fun _ _ _ h => h) (Or.inl ⟨by rfl, ?_⟩) hHeld ?_
  rotate_left
  · intro w hSw; (try dsimp only at hSw); go_simp
    all_goals (with_reducible rfl)
  (try simp only [Act.put, List.getElem_toArray, List.getElem_cons_succ, List.getElem_cons_zero, List.setIfInBounds_toArray, List.set_cons_zero, List.set_cons_succ])
  refine wpAnyH_take (i := 4) (v := ?_) rfl (by kernel_rfl) (by kernel_rfl) (by kernel_rfl) (fun _ _ _ h => h) (Or.inl ⟨by rfl, ?_⟩) hHeld ?_
  rotate_left
  · intro w hSw; (try dsimp only at hSw); go_simp
    all_goals (with_reducible rfl)
  (try simp only [Act.put, List.getElem_toArray, List.getElem_cons_succ, List.getElem_cons_zero, List.setIfInBounds_toArray, List.set_cons_zero, List.set_cons_succ])
  refine wpAnyH_take (i := 5) (v := ?_) rfl (by kernel_rfl) (by kernel_rfl) (by kernel_rfl) (fun _ _ _ h => h) (Or.inl ⟨by rfl, ?_⟩) hHeld ?_
  rotate_left
  · intro w hSw; (try dsimp only at hSw); go_simp
    all_goals (with_reducible rfl)
  (try simp only [Act.put, List.getElem_toArray, List.getElem_cons_succ, List.getElem_cons_zero, List.setIfInBounds_toArray, List.set_cons_zero, List.set_cons_succ])
  refine wpAnyH_take (i := 7) (v := ?_) rfl (by kernel_rfl) (by kernel_rfl) (by kernel_rfl) (fun _ _ _ h => h) (Or.inl ⟨by rfl, ?_⟩) hHeld ?_
  rotate_left
  · intro w hSw; (try dsimp only at hSw); go_simp
    all_goals (with_reducible rfl)
  (try simp only [Act.put, List.getElem_toArray, List.getElem_cons_succ, List.getElem_cons_zero, List.setIfInBounds_toArray, List.set_cons_zero, List.set_cons_succ])
  refine wpAnyH_ready (rs := [6]) (by kernel_rfl) (by simp) ?_
  refine AllReadyH.cons rfl (fun K hK => ?_) AllReadyH.nil
  rw [if_pos (by rfl)]
  go_simp
  refine (num17_any _ _).mono ?_
  rintro _ wB ⟨rfl, rfl⟩
  refine hK.out _ _ (HS.out _ hbA) (fun hHeld => ?_)
  clear hK K
  (try simp only [Act.put, List.getElem_toArray, List.getElem_cons_succ, List.getElem_cons_zero, List.setIfInBounds_toArray, List.set_cons_zero, List.set_cons_succ])
  refine wpAnyH_take (i := 8) (v := ?_) rfl (by kernel_rfl) (by kernel_rfl) (by kernel_rfl) (fun _ _ _ h => h) (Or.inl ⟨by rfl, ?_⟩) hHeld ?_
  rotate_left
  · intro w hSw; (try dsimp only at hSw); go_simp
    all_goals (with_reducible rfl)
  (try simp only [Act.put, List.getElem_toArray, List.getElem_cons_succ, List.getElem_cons_zero, List.setIfInBounds_toArray, List.set_cons_zero, List.set_cons_succ])
  refine wpAnyH_take (i := 9) (v := ?_) rfl (by kernel_rfl) (by kernel_rfl) (by kernel_rfl) (fun _ _ _ h => h) (Or.inl ⟨by rfl, ?_⟩) hHeld ?_
  rotate_left
  · intro w hSw; (try dsimp only at hSw); go_simp
    all_goals (with_reducible rfl)
  (try simp only [Act.put, List.getElem_toArray, List.getElem_cons_succ, List.getElem_cons_zero, List.setIfInBounds_toArray, List.set_cons_zero, List.set_cons_succ])
  refine wpAnyH_take (i := 10) (v := ?_) rfl (by kernel_rfl) (by kernel_rfl) (by kernel_rfl) (fun _ _ _ h => h) (Or.inl ⟨by rfl, ?_⟩) hHeld ?_
  rotate_left
  · intro w hSw; (try dsimp only at hSw); go_simp
    all_goals (with_reducible rfl)
  (try simp only [Act.put, List.getElem_toArray, List.getElem_cons_succ, List.getElem_cons_zero, List.setIfInBounds_toArray, List.set_cons_zero, List.set_cons_succ])
  refine wpAnyH_take (i := 11) (v := ?_) rfl (by kernel_rfl) (by kernel_rfl) (by kernel_rfl) (fun _ _ _ h => h) (Or.inl ⟨by rfl, ?_⟩) hHeld ?_
  rotate_left
  · intro w hSw; (try dsimp only at hSw); go_simp
    all_goals (with_reducible rfl)
  (try simp only [Act.put, List.getElem_toArray, List.getElem_cons_succ, List.getElem_cons_zero, List.setIfInBounds_toArray, List.set_cons_zero, List.set_cons_succ])
  refine wpAnyH_take (i := 12) (v := ?_) rfl (by kernel_rfl) (by kernel_rfl) (by kernel_rfl) (fun _ _ _ h => h) (Or.inl ⟨by rfl, ?_⟩) hHeld ?_
  rotate_left
  · intro w hSw; (try dsimp only at hSw); go_simp
    all_goals (with_reducible rfl)
  (try simp only [Act.put, List.getElem_toArray, List.getElem_cons_succ, List.getElem_cons_zero, List.setIfInBounds_toArray, List.set_cons_zero, List.set_cons_succ])
  refine wpAnyH_take (i := 13) (v := ?_) rfl (by kernel_rfl) (by kernel_rfl) (by kernel_rfl) (fun _ _ _ h => h) (Or.inl ⟨by rfl, ?_⟩) hHeld ?_
  rotate_left
  · intro w hSw; (try dsimp only at hSw); go_simp
    all_goals (with_reducible rfl)
  (try simp only [Act.put, List.getElem_toArray, List.getElem_cons_succ, List.getElem_cons_zero, List.setIfInBounds_toArray, List.set_cons_zero, List.set_cons_succ])
  refine wpAnyH_take (i := 14) (v := ?_) rfl (by kernel_rfl) (by kernel_rfl) (by kernel_rfl) (fun _ _ _ h => h) (Or.inl ⟨by rfl, ?_⟩) hHeld ?_
  rotate_left
  · intro w hSw; (try dsimp only at hSw); go_simp
    all_goals (with_reducible rfl)
  (try simp only [Act.put, List.getElem_toArray, List.getElem_cons_succ, List.getElem_cons_zero, List.setIfInBounds_toArray, List.set_cons_zero, List.set_cons_succ])
  refine wpAnyH_take (i := 15) (v := ?_) rfl (by kernel_rfl) (by kernel_rfl) (by kernel_rfl) (fun _ _ _ h => h) (Or.inl ⟨by rfl, ?_⟩) hHeld ?_
  rotate_left
  · intro w hSw; (try dsimp only at hSw); go_simp
    all_goals (with_reducible rfl)
  (try simp only [Act.put, List.getElem_toArray, List.getElem_cons_succ, List.getElem_cons_zero, List.setIfInBounds_toArray, List.set_cons_zero, List.set_cons_succ])
  refine wpAnyH_take (i := 16) (v := ?_) rfl (by kernel_rfl) (by kernel_rfl) (by kernel_rfl) (fun _ _ _ h => h) (Or.inl ⟨by rfl, ?_⟩) hHeld ?_
  rotate_left
  · intro w hSw; (try dsimp only at hSw); go_simp
    all_goals (with_reducible rfl)
  (try simp only [Act.put, List.getElem_toArray, List.getElem_cons_succ, List.getElem_cons_zero, List.setIfInBounds_toArray, List.set_cons_zero, List.set_cons_succ])
  refine wpAnyH_take (i := 17) (v := ?_) rfl (by kernel_rfl) (by kernel_rfl) (by kernel_rfl) (fun _ _ _ h => h) (Or.inl ⟨by rfl, ?_⟩) hHeld ?_
  rotate_left
  · intro w hSw; (try dsimp only at hSw); go_simp
    all_goals (with_reducible rfl)
  (try simp only [Act.put, List.getElem_toArray, List.getElem_cons_succ, List.getElem_cons_zero, List.setIfInBounds_toArray, List.set_cons_zero, List.set_cons_succ])
  refine wpAnyH_take (i := 18) (v := ?_) rfl (by kernel_rfl) (by kernel_rfl) (by kernel_rfl) (fun _ _ _ h => h) (Or.inl ⟨by rfl, ?_⟩) hHeld ?_
  rotate_left
  · intro w hSw; (try dsimp only at hSw); go_simp
    all_goals (with_reducible rfl)
  (try simp only [Act.put, List.getElem_toArray, List.getElem_cons_succ, List.getElem_cons_zero, List.setIfInBounds_toArray, List.set_cons_zero, List.set_cons_succ])
  refine wpAnyH_take (i := 19) (v := ?_) rfl (by kernel_rfl) (by kernel_rfl) (by kernel_rfl) (fun _ _ _ h => h) (Or.inl ⟨by rfl, ?_⟩) hHeld ?_
  rotate_left
  · intro w hSw; (try dsimp only at hSw); go_simp
    all_goals (with_reducible rfl)
  (try simp only [Act.put, List.getElem_toArray, List.getElem_cons_succ, List.getElem_cons_zero, List.setIfInBounds_toArray, List.set_cons_zero, List.set_cons_succ])
  refine wpAnyH_take (i := 20) (v := ?_) rfl (by kernel_rfl) (by kernel_rfl) (by kernel_rfl) (fun _ _ _ h => h) (Or.inl ⟨by rfl, ?_⟩) hHeld ?_
  rotate_left
  · intro w hSw; (try dsimp only at hSw); go_simp
    all_goals (with_reducible rfl)
  (try simp only [Act.put, List.getElem_toArray, List.getElem_cons_succ, List.getElem_cons_zero, List.setIfInBounds_toArray, List.set_cons_zero, List.set_cons_succ])
  refine wpAnyH_take (i := 21) (v := ?_) rfl (by kernel_rfl) (by kernel_rfl) (by kernel_rfl) (fun _ _ _ h => h) (Or.inl ⟨by rfl, ?_⟩) hHeld ?_
  rotate_left
  · intro w hSw; (try dsimp only at hSw); go_simp
    all_goals (with_reducible rfl)
  (try simp only [Act.put, List.getElem_toArray, List.getElem_cons_succ, List.getElem_cons_zero, List.setIfInBounds_toArray, List.set_cons_zero, List.set_cons_succ])
  refine wpAnyH_take (i := 22) (v := ?_) rfl (by kernel_rfl) (by kernel_rfl) (by kernel_rfl) (fun _ _ _ h => h) (Or.inl ⟨by rfl, ?_⟩) hHeld ?_
  rotate_left
  · intro w hSw; (try dsimp only at hSw); go_simp
    all_goals (with_reducible rfl)
  (try simp only [Act.put, List.getElem_toArray, List.getElem_cons_succ, List.getElem_cons_zero, List.setIfInBounds_toArray, List.set_cons_zero, List.set_cons_succ])
  refine wpAnyH_take (i := 23) (v := ?_) rfl (by kernel_rfl) (by kernel_rfl) (by kernel_rfl) (fun _ _ _ h => h) (Or.inl ⟨by rfl, ?_⟩) hHeld ?_
  rotate_left
  · intro w hSw; (try dsimp only at hSw); go_simp
    all_goals (with_reducible rfl)
  (try simp only [Act.put, List.getElem_toArray, List.getElem_cons_succ, List.getElem_cons_zero, List.setIfInBounds_toArray, List.set_cons_zero, List.set_cons_succ])
  refine wpAnyH_take (i := 24) (v := ?_) rfl (by kernel_rfl) (by kernel_rfl) (by kernel_rfl) (fun _ _ _ h => h) (Or.inl ⟨by rfl, ?_⟩) hHeld ?_
  rotate_left
  · intro w hSw; (try dsimp only at hSw); go_simp
    all_goals (with_reducible rfl)
  (try simp only [Act.put, List.getElem_toArray, List.getElem_cons_succ, List.getElem_cons_zero, List.setIfInBounds_toArray, List.set_cons_zero, List.set_cons_succ])
  refine wpAnyH_take (i := 25) (v := ?_) rfl (by kernel_rfl) (by kernel_rfl) (by kernel_rfl) (fun _ _ _ h => h) (Or.inl ⟨by rfl, ?_⟩) hHeld ?_
  rotate_left
  · intro w hSw; (try dsimp only at hSw); go_simp
    all_goals (with_reducible rfl)
  (try simp only [Act.put, List.getElem_toArray, List.getElem_cons_succ, List.getElem_cons_zero, List.setIfInBounds_toArray, List.set_cons_zero, List.set_cons_succ])
  refine wpAnyH_take (i := 26) (v := ?_) rfl (by kernel_rfl) (by kernel_rfl) (by kernel_rfl) (fun _ _ _ h => h) (Or.inl ⟨by rfl, ?_⟩) hHeld ?_
  rotate_left
  · intro w hSw; (try dsimp only at hSw); go_simp
    all_goals (with_reducible rfl)
  (try simp only [Act.put, List.getElem_toArray, List.getElem_cons_succ, List.getElem_cons_zero, List.setIfInBounds_toArray, List.set_cons_zero, List.set_cons_succ])
  refine wpAnyH_take (i := 27) (v := ?_) rfl (by kernel_rfl) (by kernel_rfl) (by kernel_rfl) (fun _ _ _ h => h) (Or.inl ⟨by rfl, ?_⟩) hHeld ?_
  rotate_left
  · intro w hSw; (try dsimp only at hSw); go_simp
    all_goals (with_reducible rfl)
  (try simp only [Act.put, List.getElem_toArray, List.getElem_cons_succ, List.getElem_cons_zero, List.setIfInBounds_toArray, List.set_cons_zero, List.set_cons_succ])
  refine wpAnyH_done (by kernel_rfl) ?_ _
  clear hHeld
  obtain ⟨kx5, kx7, kx9⟩ := HX.out
  have ka5 := (hbA.block _ (heap_lt kx5)).trans kx5
  have ka7 := (hbA.block _ (heap_lt kx7)).trans kx7
  have ka9 := (hbA.block _ (heap_lt kx9)).trans kx9
  obtain ⟨vs, s1, s2, s3⟩ := (HE.out.1.below hbA).spoil (fun e he => by have := HENT.out e he; omega)
  have hsp := spoilt_any s1 s2
  have hsA := hbA.size
  have kc1 := cell_of_heap ka5 (i := 1) (v := .slice ea4 vl.length ec4) (by rfl)
  have HKX := Lib.hid (And.intro ka7 ka9)
  have HS3 := Lib.hid s3
  have hb0A := hb09.trans (hbA.mono hb09.size)
  have hrA := (Chg.of_below (O := fun _ => False) hbA).row HR9.out (fun _ _ h => h)
  have HRA := Lib.hid hrA
  have hE7A := HE.out.2.1.below hbA
  have hE9A := HE.out.2.2.below hbA
  have HEA := Lib.hid (And.intro hE7A hE9A)
  clear s1 s2 s3 hrA kx5 kx7 kx9 ka5 ka7 ka9 hE7A hE9A
  go_wp2_with (go_at_call 25; refine hsp.mono ?_; rintro _ wC ⟨rfl, hcC⟩; clear kc1)
  have hcC' : Chg (fun x => w3.heap.size ≤ x ∧ x < w4.heap.size) wA wC := hcC.mono (fun x ⟨y, hy, hyx⟩ _ => HS3.out y hy x hyx)
  have hsC := hcC'.size
  have k7 := hcC'.obj HKX.out.1 (by omega)
  have k9 := hcC'.obj HKX.out.2 (by omega)
  have hrC := hcC'.row HRA.out (fun x e h => by cases e; exact absurd h.1 (Nat.not_le.2 hgl2))
  have hE7C := HEA.out.1.kept (R' := fun x => w5.heap.size ≤ x ∧ x < w6.heap.size) hcC' (fun x hx e => by omega) (fun _ h => h)
  have hE9C := HEA.out.2.kept (R' := fun x => w7.heap.size ≤ x ∧ x < w8.heap.size) hcC' (fun x hx e => by omega) (fun _ h => h)
  have hb0C : Below w.heap.size w wC := hb0A.trans (hcC'.belowLo6 hb0A.size (fun x hx => by omega))
  have HK := Lib.hid (And.intro k7 (And.intro k9 (And.intro hE7C (And.intro hE9C hb0C))))
  clear hcC k7 k9 hE7C hE9C
  go_loopw [12] (fun i wr => ∃ k : Nat, k ≤ b.length + 1 ∧ i = .int .i64 k ∧ Chg (· = g) wC wr ∧ ∃ ys, wr.ownsRow 0 5 1 (.slice (some ⟨g, 0, none⟩) (b.length + 1) c3) (b.length + 1) ys) (fun i _ => b.length + 1 - (RowKit.intOf i).toNat)
  case atStart => exact ⟨0, by omega, rfl, Chg.refl _ _, _, hrC⟩
  case round =>
    obtain ⟨k, hk, rfl, hc, ys, hr⟩ := hrel
    by_cases hlt : k < b.length + 1
    · obtain ⟨⟨u0, q0⟩, f0, hset⟩ := ownsRow_set hr (g := g) rfl k hlt (.int .u8 0)
      have hc2 : Chg (· = g) wr (wr.setCell ⟨g, k, none⟩ (.int .u8 0)) := Chg.set _ rfl
      have hc3' := hc.trans hc2 (fun _ h _ => h)
      have j2 : (0 : Int) ≤ (k : Int) := by omega
      have j3 : (k : Int) < ((b.length + 1 : Nat) : Int) := by omega
      have j4 : (k : Int) < (b.length : Int) + 1 := by omega
      have HSS := Lib.hid (And.intro hset hc3')
      clear hset hc2 hc3'
      go_wp2
      go_roundw
      case rel => exact ⟨k + 1, by omega, by go_num, HSS.out.2, _, HSS.out.1⟩
      case measure => simp [RowKit.intOf]; omega
    · obtain rfl : k = b.length + 1 := by omega
      obtain ⟨k7, k9, hE7, hE9, hb0⟩ := HK.out
      have x7 := hc.obj k7 (by omega)
      have x9 := hc.obj k9 (by omega)
      have p0 := cell_of_heap x7 (i := 0) (v := .int .i64 vf) (by rfl)
      have p1 := cell_of_heap x7 (i := 1) (v := .slice ea6 vl.length ec6) (by rfl)
      have p2 := cell_of_heap x7 (i := 2) (v := .int .i64 vg) (by rfl)
      have p3 := cell_of_heap x7 (i := 3) (v := .int .i64 vz) (by rfl)
      have p4 := cell_of_heap x7 (i := 4) (v := .int .i64 vy) (by rfl)
      have q0 := cell_of_heap x9 (i := 0) (v := .int .i64 vf) (by rfl)
      have q1 := cell_of_heap x9 (i := 1) (v := .slice ea8 vl.length ec8) (by rfl)
      have q2 := cell_of_heap x9 (i := 2) (v := .int .i64 vg) (by rfl)
      have q3 := cell_of_heap x9 (i := 3) (v := .int .i64 vz) (by rfl)
      have q4 := cell_of_heap x9 (i := 4) (v := .int .i64 vy) (by rfl)
      have hE7' := hE7.kept (R' := fun _ => True) hc (fun x hx e => by omega) (fun _ _ => trivial)
      have hE9' := hE9.kept (R' := fun _ => True) hc (fun x hx e => by omega) (fun _ _ => trivial)
      obtain ⟨_, _, e7, hat7⟩ := hE7'.at_; cases e7
      obtain ⟨_, _, e9, hat9⟩ := hE9'.at_; cases e9
      have hb0' : Below w.heap.size w wr := hb0.trans (hc.belowLo6 hb0.size (fun x hx => by omega))
      have hSf := rsegSame_any (w := wr) (c := ec6) (d := ec8) (f1 := vf) (g1 := vg) (z1 := vz) (y1 := vy) (f2 := vf) (g2 := vg) (z2 := vz) (y2 := vy) hat7 hat9 (by omega)
      have htrue : (vf == vf && vg == vg && vz == vz && vy == vy && vl == vl) = true := by simp
      rw [htrue] at hSf
      have hwk := fun W => works17_any W
      have HWK := Lib.hid hwk
      have j5 : ¬ ((b.length : Int) + 1 < (b.length : Int) + 1) := by omega
      clear x7 x9 k7 k9 hE7 hE9 hE7' hE9' hat7 hat9 htrue hr hwk hlt
      go_wp2_with (first
        | (go_at_call 23; refine hSf.mono ?_; rintro _ wE ⟨rfl, hbE⟩; have hwE := HWK.out wE)
        | (go_at_call 20; refine hwE.mono ?_; rintro _ wF ⟨rfl, hbF⟩))
      go_ret
      have h1 := hb0'.trans (hbE.mono hb0'.size)
      exact ⟨rfl, h1.trans (hbF.mono h1.size)⟩

end Go.Proofs.Ytgfdbcpakcnkpaa
