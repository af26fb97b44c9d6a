/- Texts of this claim, one behind the other: IaL, IaM. -/
import Derived.Test.YtljobojdcnhecaaFm06
import Derived.Deep.AppendLies
set_option linter.unusedSimpArgs false
set_option linter.unusedVariables false
set_option maxRecDepth 100000
set_option maxHeartbeats 8000000
namespace Go.Proofs.Ytljobojdcnhecaa
/- Sha, the reference: words. -/
open Go.RowKit Go.Maps

theorem four_at (w : World) {a b c d : UInt8} {T : TypeId} : ∀ (j : Nat) u, [bv a, bv b, bv c, bv d][j]? = some u → ((w.alloc (.cells #[.int .u8 (a.toNat : Int), .int .u8 (b.toNat : Int), .int .u8 (c.toNat : Int), .int .u8 (d.toNat : Int)] T)).drew).cell? ((⟨w.heap.size, 0, none⟩ : Addr).add j) = some u := fun j u hu => by
  rw [addr_add]
  exact cell_of_heap (w := w.alloc _) (World.alloc_heap_new w _) (by rw [← hu]; simp [bv])
theorem words_any {w : World} {v : List UInt32} (hv : v.length = 8) : Calls Try.prog 73 #[.agg (v.map uv).toArray] w fun e w' => ∃ r, e = .returned r ∧ w'.ownsRow w.heap.size 5 1 r 32 ((v.flatMap be4).map bv) ∧ Below w.heap.size w w' := by
  have hmax : maxLen = 9223372036854775807 := rfl
  obtain ⟨i0, hi, hz0, hz1, hz2⟩ := info_parts Try.info5
  obtain ⟨w1, hw1, hb1, hz1', hx1⟩ := al1 w (v.map uv).toArray 83
  have hg1 : w.heap.size < w1.heap.size := by omega
  have HX := Lib.hid (And.intro hb1 (And.intro hx1 hv))
  clear hb1 hz1' hx1 hv
  go_enter Try.func73, Try.ntmps73
  go_wp2
  go_loopw [3, 4] (fun r i wr => ∃ j : Nat, j ≤ 8 ∧ i = .int .i64 j ∧ wr.ownsRow w1.heap.size 5 1 r (4 * j) (((v.take j).flatMap be4).map bv) ∧ Below w1.heap.size w1 wr) (fun _ i _ => 8 - (intOf i).toNat)
  case atStart => exact ⟨0, by omega, rfl, World.ownsRow_nil _ _ _ _, Below.refl _ _⟩
  case round =>
    obtain ⟨j, hj, rfl, hr, hb⟩ := hrel
    by_cases hlt : j < 8
    · obtain ⟨x, hx⟩ : ∃ x, v[j]? = some x := ⟨_, List.getElem?_eq_getElem (by rw [HX.out.2.2]; omega)⟩
      have q := cell_of_heap (below_keep hb HX.out.2.1) (i := j) (v := uv x) (by rw [List.getElem?_toArray, List.getElem?_map, hx]; rfl)
      unfold uv at q
      obtain ⟨b0, b1, b2, b3, p0, p1, p2, p3, HB⟩ := put_byte x
      have p0' : IntKind.u8.wrap ((x.toNat : Int) / 16777216) = (b0.toNat : Int) := by rw [IntKind.wrap_u8', p0]
      have p1' : IntKind.u8.wrap ((x.toNat : Int) / 65536) = (b1.toNat : Int) := by rw [IntKind.wrap_u8', p1]
      have p2' : IntKind.u8.wrap ((x.toNat : Int) / 256) = (b2.toNat : Int) := by rw [IntKind.wrap_u8', p2]
      have p3' : IntKind.u8.wrap (x.toNat : Int) = (b3.toNat : Int) := by rw [IntKind.wrap_u8', p3]
      have htk : ((v.take j).flatMap be4).map bv ++ [bv b0, bv b1, bv b2, bv b3] = ((v.take (j + 1)).flatMap be4).map bv := by
        rw [List.take_add_one, hx, List.flatMap_append, List.map_append]
        simp [HB.out]
      obtain ⟨va, vc, rfl, -, -⟩ := RowAt.of_owns hr
      have i1 : (0 : Int) ≤ (j : Int) := by omega
      have i2 : (j : Int) < 8 := by omega
      have hne := World.new_ne wr _ q
      have HR := Lib.hid (And.intro hr (And.intro hb htk))
      have hs1 : w1.heap.size ≤ wr.heap.size := hb.size
      have hlt1 : w.heap.size < wr.heap.size := by omega
      have hsz1 : ∀ o, w.heap.size < ((wr.alloc o).drew).heap.size := fun o => by show _ < (wr.alloc o).heap.size; rw [World.size_alloc]; omega
      have hsz2 : ∀ o, w1.heap.size < ((wr.alloc o).drew).heap.size := fun o => by show _ < (wr.alloc o).heap.size; rw [World.size_alloc]; omega
      have hnb : (Value.slice va (4 * j) vc).ownBlock ≠ some w.heap.size := fun e => by have := (hr.lt _ e).1; omega
      clear hr hb hx htk HB
      go_wp2
      go_region_held3 (fun w' => w'.cell? ⟨w.heap.size, j, none⟩ = some (.int .u32 (x.toNat : Int))) (first | go_keep | exact (hgrow.cell_far _ (hsz1 _) hnb.symm).trans (((below_alloc_drew wr _).cell (p := ⟨w.heap.size, j, none⟩) hlt1).trans q))
        ((refine step_append_lies _ (by rfl) (.tmp 9) (.tmp 29) 30 (by rfl) w1.heap.size 5 i0 (.int .u8 0) 1 1 Try.underlying30 hi hz0 hz1 hz2 rfl (by decide) _ (4 * j) _ (by rfl) (row_below HR.out.1 (below_alloc_drew _ _)) ⟨wr.heap.size, 0, none⟩ 4 4 [bv b0, bv b1, bv b2, bv b3] (by rfl) rfl (four_at _) (by simp [bv, Value.oneCell']) (by decide) (by omega) (by omega) (Nat.le_of_lt (hsz2 _)) (wr.heap.size + 1) (by simp) ?_; intro g cap w5 hown hgrow hat hlt5))
      have hb5 : Below w1.heap.size w1 w5 := (HR.out.2.1.trans (((below_alloc_drew wr (.cells #[.int .u8 (b0.toNat : Int), .int .u8 (b1.toNat : Int), .int .u8 (b2.toNat : Int), .int .u8 (b3.toNat : Int)] 5))).mono HR.out.2.1.size)).grown hgrow (Nat.le_of_lt (hsz2 _)) (fun k hk => (HR.out.1.lt k hk).1)
      have H5 := Lib.hid (And.intro hown hb5)
      clear hown hgrow hat hlt5 hb5 hnb
      go_wp2
      go_roundw
      case rel => exact ⟨j + 1, by omega, by go_num, by have := H5.out.1; rw [HR.out.2.2] at this; exact this, H5.out.2⟩
      case measure => simp [intOf]; omega
    · obtain rfl : j = 8 := by omega
      rw [show ((8 : Nat) : Int) = 8 from rfl]
      have H2 := Lib.hid (And.intro hr hb)
      clear hr hb
      go_wp2
      go_ret
      exact ⟨_, rfl, ownsRow_base_le (by have := H2.out.1; rw [List.take_of_length_le (by rw [HX.out.2.2]; omega)] at this; exact this) (Nat.le_of_lt hg1), HX.out.1.trans (H2.out.2.mono (Nat.le_of_lt hg1))⟩

/- Sha, the reference: Take. -/

theorem underV_size {st : List UInt32} {n : Nat} {r : Value} (h : st.length = 8) : (underV st n r).size = 10 := by simp [underV, h]
theorem underV_st {st st' : List UInt32} {n : Nat} {r : Value} (h1 : st.length = 8) (h2 : st'.length = 8) : (lay (underV st n r).toList 0 (st'.map uv)).toArray = underV st' n r := by
  unfold underV
  rw [lay_eq _ _ _ (by simp [h1, h2]), List.take_zero, List.nil_append, List.length_map, h2, Nat.zero_add, List.toList_toArray, List.drop_append_of_le_length (by simp [h1]), List.drop_of_length_le (by simp [h1]), List.nil_append]
theorem underV_range {w : World} {p : Nat} {st : List UInt32} {n : Nat} {r : Value} {e : TypeId} {f : Nat × Nat} (h : w.heap[p]? = some (.cells (underV st n r) e f)) : w.rangeAt p 0 (st.map uv) := range_of_heap h (fun j v hj => by
  rw [Nat.zero_add, List.getElem?_append_left (by exact (List.getElem?_eq_some_iff.1 hj).1)]; exact hj)
theorem underV_get {st : List UInt32} {n : Nat} {r : Value} (h : st.length = 8) : (underV st n r)[8]? = some (.int .i64 (n : Int)) ∧ (underV st n r)[9]? = some r := by
  unfold underV
  exact ⟨by rw [List.getElem?_toArray, List.getElem?_append_right (by simp [h])]; simp [h], by rw [List.getElem?_toArray, List.getElem?_append_right (by simp [h])]; simp [h]⟩
theorem underV_put {st : List UInt32} {n m : Nat} {r r' : Value} (h : st.length = 8) : ((underV st n r).setIfInBounds 8 (.int .i64 (m : Int))).setIfInBounds 9 r' = underV st m r' := by
  unfold underV
  rw [List.setIfInBounds_toArray, List.setIfInBounds_toArray, List.set_append_right _ _ (by simp [h]), List.set_append_right _ _ (by simp [h])]
  simp [h]
theorem underV_one {st : List UInt32} {n : Nat} {r : Value} (hr : r.oneCell' = true) : (underV st n r).all (·.oneCell') = true := all_oneCell_toArray (fun v hv => by
  rcases List.mem_append.1 hv with hv | hv
  · exact uv_one v hv
  · simp at hv; rcases hv with rfl | rfl
    · rfl
    · exact hr)
theorem sub_le {a : Option Addr} {c k B : Nat} (h : ∀ x, a = some x → B ≤ x.block) : ∀ x, subAt a c k = some x → B ≤ x.block := fun x hx => by
  unfold subAt at hx
  split at hx
  · exact h x hx
  · cases a with
    | none => cases hx
    | some y =>
      rw [Option.map_some] at hx
      cases hx
      have := h y rfl
      unfold Addr.add; split <;> exact this
theorem sub_nil {a : Option Addr} {c q : Nat} (hc : q ≤ c) (h : a = none → c = 0) : subAt a c 64 = none → c - 64 = 0 := fun e => by
  have := h (subAt_none.1 e); omega
theorem turns_next (st : List UInt32) (B : List UInt8) (k : Nat) : turns st B (k + 1) = turn (turns st B k) ((B.drop (64 * k)).take 64) := by
  unfold turns
  rw [turnsBy_add _ k 1, turnsBy_succ]; rfl
theorem rtake_any {w : World} {st : List UInt32} {n : Nat} {rl b : List UInt8} {ra ba : Option Addr} {rc bc : Nat} (h8 : st.length = 8) (hr : RowAt w ra (rl.map bv)) (hb : RowAt w ba (b.map bv)) (hrn : ra = none → rc = 0) (hbn : ba = none → bc = 0) (hbig : n + rl.length + b.length ≤ 1099511627776) :
    Calls Try.prog 51 #[.agg (underV st n (.slice ra rl.length rc)), .slice ba b.length bc] w fun e w' => ∃ a c, e = .returned (.agg (underV (turns st (rl ++ b) ((rl ++ b).length / 64)) (n + b.length) (.slice a ((rl ++ b).length % 64) c))) ∧
      RowAt w' a (((rl ++ b).drop (64 * ((rl ++ b).length / 64))).map bv) ∧ (a = none → c = 0) ∧ Below w.heap.size w w' := by
  have hmax : maxLen = 9223372036854775807 := rfl
  obtain ⟨i0, hi, hz0, hz1, hz2⟩ := info_parts Try.info5
  obtain ⟨w2, hw2, hb2, hz2', hxA, hxC⟩ := al2 w (underV st n (.slice ra rl.length rc)) 85 #[.int .u32 0, .int .u32 0, .int .u32 0, .int .u32 0, .int .u32 0, .int .u32 0, .int .u32 0, .int .u32 0, .int .i64 0, .slice none 0 0] 85
  have c9 := cell_of_heap hxA (underV_get (r := .slice ra rl.length rc) (n := n) h8).2
  have hg2 : w.heap.size + 1 < w2.heap.size := by omega
  have HX := Lib.hid (And.intro hb2 (And.intro hxA (And.intro hxC (And.intro (hr.below hb2) (And.intro (hb.below hb2) h8)))))
  clear hb2 hz2' hxA hxC hr hb h8
  go_enter Try.func51, Try.ntmps51
  go_wp2_with (first
    | (at_builtin; refine wpList_append_any _ rfl (.const (.slice none 0 0)) (.tmp 7) 30 rfl w2.heap.size 5 i0 (.int .u8 0) 1 Try.underlying30 hi hz0 hz1 hz2 rfl _ 0 [] rfl (World.ownsRow_nil _ _ _ _) ra rl.length rc (rl.map bv) rfl (by simp) hrn HX.out.2.2.2.1 bytes_one' (by omega) (by omega) (Nat.le_refl _) ?_; intro v3 w3 hv3 hg3)
    | (at_builtin; refine wpList_append_any _ rfl (.tmp 8) (.tmp 9) 30 rfl w2.heap.size 5 i0 (.int .u8 0) 1 Try.underlying30 hi hz0 hz1 hz2 rfl _ (0 + rl.length) _ rfl hv3 ba b.length bc (b.map bv) rfl (by simp) hbn (HX.out.2.2.2.2.1.below (Below.grown (Below.refl _ _) hg3 (Nat.le_refl _) (fun k hk => nomatch (show (none : Option Nat) = some k from hk)))) bytes_one' (by omega) (by omega) hg3.size ?_; intro v4 w4 hv4 hg4))
  obtain ⟨va, vc, rfl, hrow4, -⟩ := RowAt.of_owns hv4
  rw [List.nil_append, ← List.map_append] at hrow4
  have hvc := RowAt.of_owns hv4
  have hcap : ∃ hh : va = none → vc = 0, 0 + rl.length + b.length ≤ vc := ⟨ownsRow_cap0 hv4, ownsRow_len_cap hv4⟩
  obtain ⟨hnil4, hlen4⟩ := hcap
  obtain ⟨m, hm⟩ : ∃ m, 0 + rl.length + b.length = m := ⟨_, rfl⟩
  obtain ⟨B, hB⟩ : ∃ B, rl ++ b = B := ⟨_, rfl⟩
  have hBl : B.length = m := by rw [← hB, ← hm]; simp
  have hb4 : Below w2.heap.size w2 w4 := (Below.grown (Below.refl _ _) hg3 (Nat.le_refl _) (fun k hk => nomatch (show (none : Option Nat) = some k from hk))).grown hg4 hg3.size (fun k hk => (hv3.lt k hk).1)
  have hva : ∀ x, va = some x → w2.heap.size ≤ x.block := fun x hx => (hv4.lt x.block (by subst hx; rfl)).1
  rw [hm] at hlen4 ⊢
  rw [hB] at hrow4
  have hA4 := below_keep hb4 HX.out.2.1
  have HY := Lib.hid (And.intro hb4 (And.intro hBl (And.intro hB hm)))
  have HZ := Lib.hid (And.intro hrow4 (And.intro hnil4 (And.intro hlen4 (And.intro hva hA4))))
  clear hv3 hv4 hg3 hg4 hvc hb4 hBl hB hm hrow4 hnil4 hlen4 hva hA4
  go_loopw [5] (fun v wr => ∃ k, 64 * k ≤ m ∧ ∃ a c, v = .slice a (m - 64 * k) c ∧ (a = none → c = 0) ∧ m - 64 * k ≤ c ∧ RowAt wr a ((B.drop (64 * k)).map bv) ∧ (∀ x, a = some x → w2.heap.size ≤ x.block) ∧
    wr.heap[w.heap.size]? = some (.cells (underV (turns st B k) n (.slice ra rl.length rc)) 85 (0, 0)) ∧ Chg (· = w.heap.size) w4 wr) (fun v _ => lenS v)
  case atStart => exact ⟨0, by omega, va, vc, rfl, HZ.out.2.1, by have := HZ.out.2.2.1; omega, by rw [Nat.mul_zero, List.drop_zero]; exact HZ.out.1, HZ.out.2.2.2.1, HZ.out.2.2.2.2, Chg.refl _ _⟩
  case round =>
    clear HZ
    obtain ⟨k, hk, a, c, rfl, hnil, hc, hrow, hab, hA, hg⟩ := hrel
    have h8 : (turns st B k).length = 8 := turns_len _ HX.out.2.2.2.2.2
    obtain ⟨q, hq⟩ : ∃ q, m - 64 * k = q := ⟨_, rfl⟩
    rw [hq] at hc ⊢
    by_cases hlt : 64 ≤ q
    · have hR := underV_range hA
      have hdl : (B.drop (64 * k)).length = q := by rw [List.length_drop, HY.out.2.1, hq]
      have ht64 : ((B.drop (64 * k)).take 64).length = 64 := by rw [List.length_take, hdl]; omega
      have cB := rBlock_any (w := wr.drew) (cp := c) h8 ht64 (ad := a) (show RowAt wr a _ from by rw [List.map_take]; exact hrow.take 64)
      have hsl := run_slice_hi (P := Try.prog) 30 5 Try.underlying30 (fun w => by kernel_rfl) a q c 64 (by omega)
      have hsl' : ∀ w, (Instr.slice 30 (.slice a q c) none (some (.int .i64 64)) none).run Try.prog w = Result.ok (.slice a 64 c) w := hsl
      have hsm : ∀ w, (Instr.slice 30 (.slice a q c) (some (.int .i64 64)) none none).run Try.prog w = Result.ok (.slice (subAt a c 64) (q - 64) (c - 64)) w := run_slice_lo (P := Try.prog) 30 5 Try.underlying30 (fun w => by kernel_rfl) a q c 64 hlt
      have hl8 : ((turns st B k).map uv).length = 8 := by rw [List.length_map, h8]
      have HR := Lib.hid (And.intro hR (And.intro hl8 (And.intro h8 (And.intro hA (And.intro hg (And.intro hrow (And.intro hab (And.intro hnil (And.intro hq (And.intro ht64 hdl))))))))))
      have hq64 : decide (64 ≤ (q : Int)) = true := by simp; omega
      have hwl : w.heap.size < wr.heap.size := heap_lt hA
      clear hR hl8 h8 hA hg hrow hab hnil hq ht64 hdl hsl
      go_wp2
      refine wp_region_still_tail 4 (by kernel_rfl) (by kernel_rfl) ?_
      simp only [List.take_succ_cons, List.take_zero, List.drop_succ_cons, List.drop_zero]
      still_step
      refine wpStill_step (fun K hK => ?_)
      refine still_load_mid 83 _ rfl w.heap.size 0 (by rfl) _ _ HR.out.1 Try.underlying83 rfl (by rw [HR.out.2.1]; kernel_rfl) ?_
      refine hK _ ?_
      clear hK K
      iterate 2 still_step
      refine wpStill_nil ?_
      change wpList _ _ _ _ _ wr.drew
      go_wp2_with fail
      ((with_reducible refine cB.mono ?_); rintro _ w5 ⟨rfl, hb5⟩)
      obtain ⟨st', hst⟩ : ∃ st', turn (turns st B k) ((B.drop (64 * k)).take 64) = st' := ⟨_, rfl⟩
      have hst8 : st'.length = 8 := by rw [← hst]; exact turn_len HR.out.2.2.1
      have hb5' : Below wr.heap.size wr w5 := ⟨hb5.os, hb5.tape, hb5.output, hb5.size, hb5.block⟩
      have q5 : w5.heap[w.heap.size]? = some (.cells ((underV (turns st B k) n (.slice ra rl.length rc)).toList).toArray 85 (0, 0)) := by rw [Array.toArray_toList]; exact below_keep hb5' HR.out.2.2.2.1
      have hl8 : (st'.map uv).toArray.size = 8 := by rw [List.size_toArray, List.length_map, hst8]
      obtain ⟨k1, k2⟩ := setCells_heap (st'.map uv) (w := w5) (g := w.heap.size) (o := 0) q5
      rw [List.toList_toArray, underV_st HR.out.2.2.1 hst8] at k1
      have hrow5 := ((HR.out.2.2.2.2.2.1.drop c 64 (by rw [List.length_map, HR.out.2.2.2.2.2.2.2.2.2.2]; exact hc)).below hb5').kept (w' := w5.setCells w.heap.size 0 (st'.map uv)) (fun b' hb' ⟨o', sp', e'⟩ => k2.block b' hb' (by
        have := sub_le HR.out.2.2.2.2.2.2.1 _ e'; simp at this; omega))
      have hg5 := (HR.out.2.2.2.2.1.trans (O' := (· = w.heap.size)) (Chg.of_below hb5') (fun _ h _ => h)).trans k2 (fun _ h _ => h)
      have H5 := Lib.hid (And.intro q5 (And.intro hl8 (And.intro k1 (And.intro hrow5 (And.intro hg5 (And.intro hst hst8))))))
      have htk : turns st B (k + 1) = st' := by rw [← hst]; exact turns_next _ _ _
      have HT := Lib.hid htk
      rw [hst]
      clear q5 hl8 k1 k2 hrow5 hg5 hst hst8 hb5 hb5' htk
      go_wp2_with (refine wpList_store_mid rfl 83 _ _ rfl w.heap.size 0 (st'.map uv).toArray (by rfl) (by rfl) (there_of_heap H5.out.1 (by rw [H5.out.2.1, Array.length_toList, underV_size HR.out.2.2.1]; omega)) (by rw [H5.out.2.1]; kernel_rfl) (all_oneCell_toArray uv_one) ?_; rw [List.toList_toArray])
      go_roundw
      case rel =>
        have hq' := HR.out.2.2.2.2.2.2.2.2.1
        refine ⟨k + 1, by omega, subAt a c 64, c - 64, by rw [show m - 64 * (k + 1) = q - 64 from by omega], sub_nil hc HR.out.2.2.2.2.2.2.2.1, by omega, ?_, sub_le HR.out.2.2.2.2.2.2.1, by rw [HT.out]; exact H5.out.2.2.1, H5.out.2.2.2.2.1⟩
        have := H5.out.2.2.2.1
        rw [← List.map_drop, List.drop_drop, show 64 * k + 64 = 64 * (k + 1) from by omega] at this
        exact this
      case measure => simp [lenS]; omega
    · have hC : wr.heap[w.heap.size + 1]? = _ := hg.obj (below_keep HY.out.1 HX.out.2.2.1) (by omega)
      have hq64 : decide (64 ≤ (q : Int)) = false := by simp; omega
      have c8 := cell_of_heap hA (underV_get (r := .slice ra rl.length rc) (n := n) h8).1
      obtain ⟨z8, z9⟩ : wr.frozen? ⟨w.heap.size, 8, none⟩ = false ∧ wr.frozen? ⟨w.heap.size, 9, none⟩ = false := ⟨frozen_of_heap hA, frozen_of_heap hA⟩
      have c9' := cell_of_heap hA (underV_get (r := .slice ra rl.length rc) (n := n) h8).2
      have hh1 := heap_set_cells (i := 9) (.slice a q c) (heap_set_cells (i := 8) (.int .i64 ((n : Int) + (b.length : Int))) hA)
      rw [show (n : Int) + (b.length : Int) = ((n + b.length : Nat) : Int) from by omega, underV_put h8] at hh1
      have hg1 := (hg.trans (Chg.set (O := (· = w.heap.size)) (w := wr) (a := ⟨w.heap.size, 8, none⟩) (.int .i64 ((n + b.length : Nat) : Int)) rfl) (fun _ h _ => h)).trans (Chg.set (O := (· = w.heap.size)) (a := ⟨w.heap.size, 9, none⟩) (.slice a q c) rfl) (fun _ h _ => h)
      have hC1 := hg1.obj (below_keep HY.out.1 HX.out.2.2.1) (by omega)
      have hrow1 := hrow.kept (w' := (wr.setCell ⟨w.heap.size, 8, none⟩ (.int .i64 ((n + b.length : Nat) : Int))).setCell ⟨w.heap.size, 9, none⟩ (.slice a q c)) (fun b' hb' ⟨o', sp', e'⟩ =>
        (((Chg.set (O := (· = w.heap.size)) (w := wr) (a := ⟨w.heap.size, 8, none⟩) (.int .i64 ((n + b.length : Nat) : Int)) rfl)).trans (Chg.set (O := (· = w.heap.size)) (a := ⟨w.heap.size, 9, none⟩) (.slice a q c) rfl) (fun _ h _ => h)).block b' hb' (by have := hab _ e'; simp at this; omega))
      rw [show ((n + b.length : Nat) : Int) = (n : Int) + (b.length : Int) from by omega] at hg1 hC1 hrow1 hh1
      obtain ⟨W6, hW6⟩ : ∃ z, (wr.setCell ⟨w.heap.size, 8, none⟩ (.int .i64 ((n : Int) + (b.length : Int)))).setCell ⟨w.heap.size, 9, none⟩ (.slice a q c) = z := ⟨_, rfl⟩
      rw [hW6] at hg1 hC1 hrow1 hh1
      have hsz : (underV (turns st B k) (n + b.length) (.slice a q c)).size = 10 := underV_size h8
      have hbw : Below w.heap.size w W6 := Chg.below_new (HX.out.1.trans (HY.out.1.mono HX.out.1.size)) hg1 (by intro k hk; omega)
      have hone : (underV (turns st B k) (n + b.length) (.slice a q c)).all (·.oneCell') = true := underV_one rfl
      have HE := Lib.hid (And.intro hh1 (And.intro hC1 (And.intro hsz (And.intro hone (And.intro hbw (And.intro hrow1 (And.intro hnil hq)))))))
      have hab2 : a ≠ some ⟨w.heap.size + 1, 0, none⟩ ∨ True := .inr trivial
      clear hA hC h8 hh1 hC1 hsz hone hbw hrow1 hg hg1 hrow hnil hq hab2
      go_wp2_with (first
        | (refine wpList_load_row rfl 85 _ rfl w.heap.size (by rfl) _ _ _ _ HE.out.1 Try.underlying85 (by kernel_rfl) (by rw [HE.out.2.2.1]; kernel_rfl) ?_)
        | (refine wpList_store_row rfl _ _ _ rfl (w.heap.size + 1) (underV (turns st B k) (n + b.length) (.slice a q c)) (by rfl) (by rfl) _ _ HE.out.2.1 (by rw [HE.out.2.2.1]; kernel_rfl) (by rw [HE.out.2.2.1]; rfl) HE.out.2.2.2.1 ?_))
      have hk' : k = m / 64 := by have := HE.out.2.2.2.2.2.2.2; omega
      have hqm : q = m % 64 := by have := HE.out.2.2.2.2.2.2.2; omega
      have hrow6 := HE.out.2.2.2.2.2.1.kept (w' := W6.setRow (w.heap.size + 1) (underV (turns st B k) (n + b.length) (.slice a q c))) (fun b' hb' ⟨o', sp', e'⟩ => setRow_other _ _ _ _ (by have := hab _ e'; simp at this; omega))
      subst hk' hqm
      rw [HY.out.2.2.1, HY.out.2.1]
      exact bodyPost_ret (results_cell_row (by rfl) _ _ (w.heap.size + 1) _ _ _ _ (by rfl) (setRow_heap _ _ _ _ _ _ HE.out.2.1) Try.underlying85 (by kernel_rfl) (by rw [HE.out.2.2.1]; kernel_rfl)) rfl ⟨a, c, rfl, hrow6, HE.out.2.2.2.2.2.2.1, setRow_below HE.out.2.2.2.2.1 (by omega)⟩

end Go.Proofs.Ytljobojdcnhecaa
