/- Texts of this claim, one behind the other: IaI, IaJ, IaK. -/
import Derived.Test.YtljobojdcnhecaaFm05
import Derived.Test.YtljobojdcnhecaaFm04
set_option linter.unusedSimpArgs false
set_option linter.unusedVariables false
set_option maxRecDepth 100000
set_option maxHeartbeats 8000000
namespace Go.Proofs.Ytljobojdcnhecaa
/- Sha: New, Sum. -/
open Go.RowKit Go.Maps

theorem new_any (w : World) : Calls Try.prog 65 #[] w fun e w' => ∃ s, e = .returned (.pointer (some ⟨s, 0, none⟩)) ∧ w.heap.size ≤ s ∧ ShaAt w' s [] ∧ Below w.heap.size w w' := by
  have cF := first_any w
  go_enter Try.func65, Try.ntmps65
  go_wp2_with (first | (go_at_call 80; (with_reducible refine cF.mono ?_); rintro _ w1 ⟨rfl, hb1⟩) | (refine wpList_build_of rfl _ _ rfl (shaC sha0 (List.replicate 64 0) 0).toArray (by kernel_rfl) ?_))
  go_ret
  exact ⟨w1.heap.size, rfl, hb1.size, ⟨List.replicate 64 0, rfl, rfl, World.alloc_heap_new _ _⟩, bthen hb1 (below_alloc _ _)⟩
theorem none_any {w : World} {s : Nat} {l : List UInt8} (h : ShaAt w s l) : Calls Try.prog 82 #[.pointer (some ⟨s, 0, none⟩)] w fun e w' => e = .returned (.bool false) ∧ w = w' := by
  obtain ⟨buf, h1, h2, h3⟩ := h
  have c73 : w.cell? ⟨s, 73, none⟩ = some (.bool true) := cell_of_heap h3 (by
    unfold shaC
    rw [List.getElem?_toArray, List.getElem?_append_right (by simp [stOf_len]), List.getElem?_append_right (by simp [stOf_len, h1])]
    simp [stOf_len, h1])
  clear h1 h2 h3
  go_enter Try.func82, Try.ntmps82
  go_wp2
  go_ret
  exact ⟨rfl, rfl⟩
theorem lay_snoc (vs : List Value) : ∀ (cs : List Value) (o : Nat) (v : Value), lay cs o (vs ++ [v]) = (lay cs o vs).set (o + vs.length) v := by
  induction vs with
  | nil => intro cs o v; rfl
  | cons u r ih =>
    intro cs o v
    rw [List.cons_append, lay, ih, lay, List.length_cons, show o + 1 + r.length = o + (r.length + 1) from by omega]
theorem put_byte (x : UInt32) : ∃ b0 b1 b2 b3 : UInt8, (x.toNat : Int) / 16777216 % 256 = (b0.toNat : Int) ∧ (x.toNat : Int) / 65536 % 256 = (b1.toNat : Int) ∧ (x.toNat : Int) / 256 % 256 = (b2.toNat : Int) ∧ (x.toNat : Int) % 256 = (b3.toNat : Int) ∧ Hid (be4 x = [b0, b1, b2, b3]) := by
  have hx := u_lt x
  refine ⟨_, _, _, _, ?_, ?_, ?_, ?_, rfl⟩
  · rw [UInt32.toNat_toUInt8, UInt32.toNat_shiftRight, show (24 : UInt32).toNat % 32 = 24 from rfl, Nat.shiftRight_eq_div_pow]; omega
  · rw [UInt32.toNat_toUInt8, UInt32.toNat_shiftRight, show (16 : UInt32).toNat % 32 = 16 from rfl, Nat.shiftRight_eq_div_pow]; omega
  · rw [UInt32.toNat_toUInt8, UInt32.toNat_shiftRight, show (8 : UInt32).toNat % 32 = 8 from rfl, Nat.shiftRight_eq_div_pow]; omega
  · rw [UInt32.toNat_toUInt8]; omega
theorem put_any {w : World} {g off n c : Nat} {cs : List Value} {T : TypeId} (x : UInt32) (h : w.heap[g]? = some (.cells cs.toArray T (0, 0))) (h4 : 4 ≤ n) (hfit : off + 4 ≤ cs.length) :
    Calls Try.prog 83 #[.slice (some ⟨g, off, none⟩) n c, .int .u32 (x.toNat : Int)] w fun e w' => (∃ v, e = .returned v) ∧ w'.heap[g]? = some (.cells (lay cs off ((be4 x).map bv)).toArray T (0, 0)) ∧ Chg (· = g) w w' := by
  obtain ⟨b0, b1, b2, b3, p0, p1, p2, p3, HB⟩ := put_byte x
  rw [HB.out]
  clear HB
  go_enter Try.func83, Try.ntmps83
  go_wp2
  go_loopw [5] (fun i wr => ∃ j, j ≤ 4 ∧ i = .int .i64 (j : Nat) ∧ wr.heap[g]? = some (.cells (lay cs off (([b0, b1, b2, b3].take j).map bv)).toArray T (0, 0)) ∧ Chg (· = g) w wr) (fun i _ => 4 - (intOf i).toNat)
  case atStart => exact ⟨0, by omega, rfl, h, Chg.refl _ _⟩
  case round =>
    clear h
    obtain ⟨j, hj, rfl, hh, hg⟩ := hrel
    by_cases hlt : j < 4
    · have hlen : (lay cs off (([b0, b1, b2, b3].take j).map bv)).length = cs.length := lay_len _ _ _
      obtain ⟨u, hu⟩ : ∃ u, (lay cs off (([b0, b1, b2, b3].take j).map bv))[off + j]? = some u := ⟨_, List.getElem?_eq_getElem (by rw [hlen]; omega)⟩
      have hc := cell_of_heap hh (i := off + j) (by rw [List.getElem?_toArray]; exact hu)
      have hz : wr.frozen? ⟨g, off + j, none⟩ = false := frozen_of_heap hh
      obtain ⟨b, hb⟩ : ∃ b, [b0, b1, b2, b3][j]? = some b := ⟨_, List.getElem?_eq_getElem (by simpa using hlt)⟩
      have hh2 := heap_set_cells (i := off + j) (bv b) hh
      have HH := Lib.hid (And.intro hh2 (hg.trans (Chg.set (O := (· = g)) (w := wr) (a := ⟨g, off + j, none⟩) (bv b) rfl) (fun _ h _ => h)))
      clear hlen hu hh hg hh2
      obtain rfl | rfl | rfl | rfl : j = 0 ∨ j = 1 ∨ j = 2 ∨ j = 3 := by omega
      all_goals
        simp at hb
        subst hb
        unfold bv at HH
        (try rw [Nat.add_zero] at hc hz HH)
        first | rw [show ((0 : Nat) : Int) = 0 from rfl] | rw [show ((1 : Nat) : Int) = 1 from rfl] | rw [show ((2 : Nat) : Int) = 2 from rfl] | rw [show ((3 : Nat) : Int) = 3 from rfl]
        go_wp2
        go_roundw
        case rel =>
          refine ⟨_, hlt, by go_num, ?_, HH.out.2⟩
          rw [HH.out.1, List.setIfInBounds_toArray]
          congr 2
        case measure => simp [intOf]
    · obtain rfl : j = 4 := by omega
      rw [show ((4 : Nat) : Int) = 4 from rfl]
      have HH := Lib.hid (And.intro hh hg)
      clear hh hg
      go_wp2
      exact bodyPost_end (results_none rfl _ _ _) rfl ⟨⟨_, rfl⟩, HH.out⟩

theorem lay_append (xs : List Value) : ∀ (cs : List Value) (o : Nat) (ys : List Value), lay cs o (xs ++ ys) = lay (lay cs o xs) (o + xs.length) ys := by
  induction xs with
  | nil => intro cs o ys; rfl
  | cons u r ih =>
    intro cs o ys
    rw [List.cons_append, lay, ih, lay, List.length_cons, show o + 1 + r.length = o + (r.length + 1) from by omega]
theorem setRow_below {w w' : World} {g : Nat} {cs : Array Value} (h : Below w.heap.size w w') (hg : w.heap.size ≤ g) : Below w.heap.size w (w'.setRow g cs) :=
  ⟨h.os, h.tape, h.output, by rw [setRow_size]; exact h.size, fun k hk => (setRow_other w' g k cs (by omega)).trans (h.block k hk)⟩
/-- an element of an array by value -/
theorem run_index_one {P : Program} (t e : TypeId) (n : Nat) (h : P.underlying t = some (.array n e)) (he : ∀ w, (sizeOf e).run P w = Result.ok 1 w) (ha : ∀ w, (isAgg e).run P w = Result.ok false w) (cs : Array Value) (j : Nat) (hj : j < n) (v : Value) (hv : cs[j]? = some v) (w : World) :
    (Instr.index t (.agg cs) (.int .i64 (j : Int))).run P w = Result.ok v w := by
  have hjs : j < cs.size := (Array.getElem?_eq_some_iff.1 hv).1
  simp [Instr.index, run_underlying h, asIntOf, hj, he, part, ha, hv, go_sem]
/-- how many bytes a sum under way has taken -/
def lenAt (w : World) (s : Nat) : Nat := match w.cell? ⟨s, 72, none⟩ with | some (.int _ n) => n.toNat | _ => 0
theorem ShaAt.lenAt {w : World} {s : Nat} {l : List UInt8} (h : ShaAt w s l) : lenAt w s = l.length := by
  obtain ⟨buf, h1, h2, h3⟩ := h
  unfold Proofs.Ytljobojdcnhecaa.lenAt
  rw [cell_of_heap h3 (shaC_get_n (stOf_len _) h1)]
  simp
theorem zeros32 : #[.int .u8 0, .int .u8 0, .int .u8 0, .int .u8 0, .int .u8 0, .int .u8 0, .int .u8 0, .int .u8 0, .int .u8 0, .int .u8 0, .int .u8 0, .int .u8 0, .int .u8 0, .int .u8 0, .int .u8 0, .int .u8 0, .int .u8 0, .int .u8 0, .int .u8 0, .int .u8 0, .int .u8 0, .int .u8 0, .int .u8 0, .int .u8 0, .int .u8 0, .int .u8 0, .int .u8 0, .int .u8 0, .int .u8 0, .int .u8 0, .int .u8 0, .int .u8 0] = ((List.replicate 32 (0 : UInt8)).map bv).toArray := rfl
theorem ShaAt.below {w w' : World} {s : Nat} {l : List UInt8} (h : ShaAt w s l) (hb : Below w.heap.size w w') : ShaAt w' s l := h.keep (O := fun _ => False) (Chg.of_below hb) (fun h => h)
theorem ShaAt.c72 {w : World} {s : Nat} {l : List UInt8} (h : ShaAt w s l) : w.cell? ⟨s, 72, none⟩ = some (.int .i64 (l.length : Int)) := by
  obtain ⟨buf, h1, h2, h3⟩ := h
  exact cell_of_heap h3 (shaC_get_n (stOf_len _) h1)
theorem push_any {w : World} {s : Nat} {l : List UInt8} (x : UInt8) {xv : Int} (hx : xv = (x.toNat : Int)) (h : ShaAt w s l) (hs : s < w.heap.size) (hbig : l.length ≤ 1099511627775) :
    Calls Try.prog 66 #[.pointer (some ⟨s, 0, none⟩), .slice (some ⟨w.heap.size, 0, none⟩) 1 1] (w.alloc (.cells #[.int .u8 xv] 5)) fun e w' => (∃ v, e = .returned v) ∧ ShaAt w' s (l ++ [x]) ∧ Chg (· = s) w w' := by
  subst hx
  exact (take_any (b := [x]) (h.keep (Chg.alloc (fun _ => False) w _) (fun h => h)) (RowAt.of_row fun j u hu => cell_of_heap (World.alloc_heap_new w _) (by
    cases j with
    | zero => simpa [bv] using hu
    | succ j => simp at hu)) (Nat.le_refl 1) (fun y hy _ => by cases hy; exact Nat.ne_of_gt hs) (by simp; omega)).mono fun e w' ⟨h1, h2, h3⟩ => ⟨h1, h2, (Chg.alloc _ w _).trans h3 (fun _ h _ => h)⟩
theorem Chg.below_new {O : Nat → Prop} {w w3 w' : World} (hb : Below w.heap.size w w3) (h : Chg O w3 w') (hO : ∀ k, O k → w.heap.size ≤ k) : Below w.heap.size w w' :=
  ⟨h.os.trans hb.os, h.tape.trans hb.tape, h.output.trans hb.output, Nat.le_trans hb.size h.size, fun k hk => (h.block k (Nat.lt_of_lt_of_le hk hb.size) (fun ho => by have := hO k ho; omega)).trans (hb.block k hk)⟩
theorem sumM_any {w : World} {s : Nat} {l : List UInt8} (h : ShaAt w s l) (hs : s < w.heap.size) (hbig : l.length ≤ 1099511627000) :
    Calls Try.prog 67 #[.pointer (some ⟨s, 0, none⟩)] w fun e w' => e = .returned (.agg ((sha l).map bv).toArray) ∧ Below w.heap.size w w' := by
  have hmax : maxLen = 9223372036854775807 := rfl
  obtain ⟨w2, hw2, hb2, hz2, hx2, hx3⟩ := al2 w #[.int .u8 0, .int .u8 0, .int .u8 0, .int .u8 0, .int .u8 0, .int .u8 0, .int .u8 0, .int .u8 0, .int .u8 0, .int .u8 0, .int .u8 0, .int .u8 0, .int .u8 0, .int .u8 0, .int .u8 0, .int .u8 0, .int .u8 0, .int .u8 0, .int .u8 0, .int .u8 0, .int .u8 0, .int .u8 0, .int .u8 0, .int .u8 0, .int .u8 0, .int .u8 0, .int .u8 0, .int .u8 0, .int .u8 0, .int .u8 0, .int .u8 0, .int .u8 0] 33 #[.int .u8 0, .int .u8 0, .int .u8 0, .int .u8 0, .int .u8 0, .int .u8 0, .int .u8 0, .int .u8 0, .int .u8 0, .int .u8 0, .int .u8 0, .int .u8 0, .int .u8 0, .int .u8 0, .int .u8 0, .int .u8 0, .int .u8 0, .int .u8 0, .int .u8 0, .int .u8 0, .int .u8 0, .int .u8 0, .int .u8 0, .int .u8 0, .int .u8 0, .int .u8 0, .int .u8 0, .int .u8 0, .int .u8 0, .int .u8 0, .int .u8 0, .int .u8 0] 33
  have h2 := h.below hb2
  obtain ⟨buf, k1, k2, k3⟩ := h2
  have hl : (shaC (stOf l) buf l.length).toArray.size = 74 := by rw [List.size_toArray, shaC_len (stOf_len l) k1]
  obtain ⟨w3, hw3, hb3, hz3, hx4⟩ := al1 w2 (shaC (stOf l) buf l.length).toArray 116
  have h3 : ShaAt w3 w2.heap.size l := ⟨buf, k1, k2, hx4⟩
  have hg2 : w.heap.size + 1 < w2.heap.size := by omega
  have hg3 : w2.heap.size < w3.heap.size := by omega
  have c72 : w3.cell? ⟨s, 72, none⟩ = some (.int .i64 (l.length : Int)) := (h.below (hb2.trans (hb3.mono hb2.size))).c72
  have cN := none_any (w := w2) (s := s) (l := l) ⟨buf, k1, k2, k3⟩
  have cP := push_any 128 (xv := 128) rfl h3 hg3 (by omega)
  have hone : (shaC (stOf l) buf l.length).toArray.all (·.oneCell') = true := all_oneCell_toArray (by
    unfold shaC; intro v hv
    rcases List.mem_append.1 hv with hv | hv
    · exact uv_one v hv
    · rcases List.mem_append.1 hv with hv | hv
      · obtain ⟨u, _, rfl⟩ := List.mem_map.1 hv; rfl
      · simp at hv; rcases hv with rfl | rfl <;> rfl)
  have HK := Lib.hid (And.intro k3 (And.intro hl hone))
  have HB := Lib.hid (And.intro (hb2.trans (hb3.mono hb2.size)) (And.intro (below_keep hb3 hx2) (below_keep hb3 hx3)))
  clear h hb2 hz2 hx2 hx3 k1 k2 k3 hl hb3 hz3 hx4 h3 hone
  go_enter Try.func67, Try.ntmps67
  go_wp2_with fail
  ((with_reducible refine cN.mono ?_); rintro _ w7 ⟨rfl, rfl⟩)
  go_wp2_with (first
    | (refine wpList_load_row rfl 116 _ rfl s (by rfl) _ _ _ _ HK.out.1 Try.underlying116 (by kernel_rfl) (by rw [HK.out.2.1]; kernel_rfl) ?_)
    | (refine wpList_store_row rfl _ _ _ rfl w2.heap.size (shaC (stOf l) buf l.length).toArray (by rfl) (by rfl) _ _ (World.alloc_heap_new w2 _) (by rw [HK.out.2.1]; kernel_rfl) (by rw [HK.out.2.1]; kernel_rfl) HK.out.2.2 ?_; rw [World.setRow_alloc_new, hw3])
    | ((with_reducible refine cP.mono ?_); rintro _ w4 ⟨⟨v4, rfl⟩, hS4, hg4⟩))
  have hH3 : w4.heap.size > w2.heap.size := Nat.lt_of_lt_of_le hg3 hg4.size
  have HS4 := Lib.hid (And.intro hS4 hg4)
  clear hS4 hg4 cN cP c72
  go_loopw [] (fun wr => ∃ z, z ≤ shaZ l.length ∧ ShaAt wr w2.heap.size (l ++ 128 :: List.replicate z 0) ∧ Chg (· = w2.heap.size) w3 wr) (fun wr => l.length + 66 - lenAt wr w2.heap.size)
  case atStart => exact ⟨0, Nat.zero_le _, HS4.out⟩
  case round =>
    clear HS4
    obtain ⟨z, hz, hS, hg⟩ := hrel
    have c72 := hS.c72
    have hL : (l ++ 128 :: List.replicate z 0).length = l.length + 1 + z := by simp; omega
    rw [hL] at c72
    have cP := push_any 0 (xv := 0) rfl hS (Nat.lt_of_lt_of_le hg3 hg.size) (by rw [hL]; unfold shaZ at hz; omega)
    have e1 : ((l.length + 1 + z : Nat) : Int) % 64 = (((l.length + 1 + z) % 64 : Nat) : Int) := by omega
    have e2 : Int.tmod ((l.length + 1 + z : Nat) : Int) 64 = (((l.length + 1 + z) % 64 : Nat) : Int) := by rw [Int.tmod_eq_emod_of_nonneg (by omega)]; exact e1
    obtain ⟨q, hq⟩ : ∃ q, (l.length + 1 + z) % 64 = q := ⟨_, rfl⟩
    obtain ⟨m, hm⟩ : ∃ m, l.length + 1 + z = m := ⟨_, rfl⟩
    rw [hq] at e1 e2
    rw [hm] at e1 e2 c72
    have HS := Lib.hid (And.intro hS (And.intro hg hL))
    clear hS hg hL
    by_cases hlt : z < shaZ l.length
    · have hne : ((q : Int) != 56) = true := by simp; unfold shaZ at hlt; omega
      clear hq hm
      go_wp2_with ((with_reducible refine cP.mono ?_); rintro _ w5 ⟨⟨v5, rfl⟩, hS5, hg5⟩)
      have HS5 := Lib.hid (And.intro hS5 hg5)
      clear hS5 hg5
      go_roundw
      case rel => exact ⟨z + 1, by omega, by have := HS5.out.1; rw [List.append_assoc, List.cons_append, ← List.replicate_succ'] at this; exact this, HS.out.2.1.trans HS5.out.2 (fun _ h _ => h)⟩
      case measure => have h1 := HS5.out.1.lenAt; have h2 := HS.out.1.lenAt; have h3 := HS.out.2.2; rw [List.length_append] at h1; unfold shaZ at hlt; simp only [List.length_singleton] at h1; omega
    · have hne : ((q : Int) != 56) = false := by simp; unfold shaZ at hlt hz; omega
      obtain rfl : z = shaZ l.length := by omega
      obtain ⟨P, hP⟩ : ∃ P, l ++ 128 :: List.replicate (shaZ l.length) 0 = P := ⟨_, rfl⟩
      have hPl : P.length ≤ 1099511627100 := by rw [← hP, HS.out.2.2]; unfold shaZ; omega
      have HP : Hid (ShaAt wr w2.heap.size P ∧ Chg (· = w2.heap.size) w3 wr ∧ P = l ++ 128 :: List.replicate (shaZ l.length) 0) := ⟨by rw [← hP]; exact HS.out.1, HS.out.2.1, hP.symm⟩
      clear hq hm hP HS
      go_wp2
      go_loopw [6] (fun i wr => ∃ j : Nat, j ≤ 8 ∧ i = .int .i64 (56 - 8 * (j : Int)) ∧ ShaAt wr w2.heap.size (P ++ (be8 (8 * l.length)).take j) ∧ Chg (· = w2.heap.size) w3 wr) (fun i _ => (intOf i + 8).toNat)
      case atStart => exact ⟨0, by omega, rfl, by rw [List.take_zero, List.append_nil]; exact HP.out.1, HP.out.2.1⟩
      case round =>
        obtain ⟨j, hj, rfl, hS, hg⟩ := hrel
        by_cases hlt : j < 8
        · obtain ⟨x, hx⟩ : ∃ x, (be8 (8 * l.length))[j]? = some x := ⟨_, List.getElem?_eq_getElem (by simpa [be8] using hlt)⟩
          obtain ⟨k, hk⟩ : ∃ k : Nat, (56 : Int) - 8 * (j : Int) = (k : Int) := ⟨56 - 8 * j, by omega⟩
          have hxv : (x.toNat : Int) = (l.length : Int) * 8 / 2 ^ k % 256 := by
            have hk' : k = 56 - 8 * j := by omega
            subst hk'
            clear hk
            obtain rfl | rfl | rfl | rfl | rfl | rfl | rfl | rfl : j = 0 ∨ j = 1 ∨ j = 2 ∨ j = 3 ∨ j = 4 ∨ j = 5 ∨ j = 6 ∨ j = 7 := by omega
            all_goals (simp [be8] at hx; subst hx; simp; omega)
          have htk : (be8 (8 * l.length)).take (j + 1) = (be8 (8 * l.length)).take j ++ [x] := by rw [List.take_add_one, hx]; rfl
          have cP := push_any x rfl hS (Nat.lt_of_lt_of_le hg3 hg.size) (by rw [List.length_append, List.length_take]; omega)
          rw [hxv] at cP
          rw [List.append_assoc, ← htk] at cP
          have hk0 : (0 : Int) ≤ (k : Int) := by omega
          have hk1 : (k : Int) < 64 := by omega
          have HS := Lib.hid (And.intro hg hk)
          clear hS hg hx hxv htk
          rw [hk]
          go_wp2_with ((with_reducible refine cP.mono ?_); rintro _ w5 ⟨⟨v5, rfl⟩, hS5, hg5⟩)
          have H5 := Lib.hid (And.intro hS5 hg5)
          clear hS5 hg5
          go_roundw
          case rel => exact ⟨j + 1, by omega, by have := HS.out.2; rw [show (k : Int) - 8 = 56 - 8 * ((j + 1 : Nat) : Int) from by omega], H5.out.1, HS.out.1.trans H5.out.2 (fun _ h _ => h)⟩
          case measure => simp [intOf]; omega
        · obtain rfl : j = 8 := by omega
          rw [show (56 : Int) - 8 * ((8 : Nat) : Int) = -8 from rfl]
          obtain ⟨v, hv⟩ : ∃ v, stOf (padded l) = v := ⟨_, rfl⟩
          have hv8 : v.length = 8 := by rw [← hv]; exact stOf_len _
          have hR : wr.rangeAt w2.heap.size 0 (v.map uv) := by
            rw [List.take_of_length_le (by simp [be8]), HP.out.2.2, List.append_assoc, List.cons_append] at hS
            obtain ⟨buf2, k1, k2, k3⟩ := hS
            rw [← hv]
            exact range_of_heap k3 (fun j v hj => by
              unfold shaC; rw [Nat.zero_add, List.getElem?_append_left (by exact (List.getElem?_eq_some_iff.1 hj).1)]; exact hj)
          have hl8 : (v.map uv).length = 8 := by rw [List.length_map, hv8]
          have HR := Lib.hid (And.intro hR (And.intro hl8 (And.intro hg (And.intro hv hv8))))
          have hw8 : w.heap.size + 1 < wr.heap.size := by have := hg.size; omega
          clear hS hg hR hl8 hv hv8 hlt hj HP
          go_wp2_with (refine wpList_load_mid rfl 83 _ rfl w2.heap.size 0 (by rfl) _ _ HR.out.1 Try.underlying83 rfl (by rw [HR.out.2.1]; kernel_rfl) ?_)
          have hz0 : wr.heap[w.heap.size + 1]? = some (.cells (lay ((List.replicate 32 (0 : UInt8)).map bv) 0 (((v.take 0).flatMap be4).map bv)).toArray 33 (0, 0)) := HR.out.2.2.1.obj (by rw [zeros32] at HB; exact HB.out.2.2) (by omega)
          have HZ := Lib.hid hz0
          clear hz0
          go_loopw [41] (fun i wr => ∃ j : Nat, j ≤ 8 ∧ i = .int .i64 j ∧ wr.heap[w.heap.size + 1]? = some (.cells (lay ((List.replicate 32 (0 : UInt8)).map bv) 0 (((v.take j).flatMap be4).map bv)).toArray 33 (0, 0)) ∧ Chg (fun b => b = w2.heap.size ∨ b = w.heap.size + 1) w3 wr) (fun i _ => 8 - (intOf i).toNat)
          case atStart => exact ⟨0, by omega, rfl, HZ.out, HR.out.2.2.1.mono (fun b h _ => .inl h)⟩
          case round =>
            clear HZ hw8
            obtain ⟨j, hj, rfl, hh, hg⟩ := hrel
            have hv8 : v.length = 8 := HR.out.2.2.2.2
            have hfl := flat_be4_len (v.take j)
            rw [List.length_take, hv8, Nat.min_eq_left hj] at hfl
            by_cases hlt : j < 8
            · obtain ⟨x, hx⟩ : ∃ x, v[j]? = some x := ⟨_, List.getElem?_eq_getElem (by omega)⟩
              have hix := fun W => run_index_one (P := Try.prog) 83 82 8 Try.underlying83 (fun w => by kernel_rfl) (fun w => by kernel_rfl) (v.map uv).toArray j hlt (.int .u32 (x.toNat : Int)) (by rw [List.getElem?_toArray, List.getElem?_map, hx]; rfl) W
              have hsl := run_sliceAt_from (P := Try.prog) 33 5 32 Try.underlying33 (fun w => by kernel_rfl) (w.heap.size + 1) (4 * j) (by omega) .i64 (4 * (j : Int)) (by omega) wr
              have cP := put_any (w := wr) (off := 4 * j) (n := 32 - 4 * j) (c := 32 - 4 * j) x hh (by omega) (by rw [lay_len, List.length_map, List.length_replicate]; omega)
              have htk : lay (lay ((List.replicate 32 (0 : UInt8)).map bv) 0 (((v.take j).flatMap be4).map bv)) (4 * j) ((be4 x).map bv) = lay ((List.replicate 32 (0 : UInt8)).map bv) 0 (((v.take (j + 1)).flatMap be4).map bv) := by
                rw [List.take_add_one, hx, List.flatMap_append, List.map_append, lay_append, List.length_map, hfl, Nat.zero_add]
                simp
              rw [htk] at cP
              have HG := Lib.hid hg
              clear hh hg hfl hx htk hv8
              go_wp2_with ((with_reducible refine cP.mono ?_); rintro _ w5 ⟨⟨v5, rfl⟩, hh5, hg5⟩)
              have H5 := Lib.hid (And.intro hh5 hg5)
              clear hh5 hg5
              go_roundw
              case rel => exact ⟨j + 1, by omega, by go_num, H5.out.1, HG.out.trans H5.out.2 (fun _ h _ => .inr h)⟩
              case measure => simp [intOf]; omega
            · obtain rfl : j = 8 := by omega
              rw [show ((8 : Nat) : Int) = 8 from rfl]
              have hS : lay ((List.replicate 32 (0 : UInt8)).map bv) 0 (((v.take 8).flatMap be4).map bv) = (sha l).map bv := by
                have hs : sha l = v.flatMap be4 := by rw [← HR.out.2.2.2.1]; rfl
                rw [List.take_of_length_le (by omega), ← hs, lay_eq _ _ _ (by rw [List.length_map, List.length_map, sha_len, List.length_replicate]; omega), List.take_zero, List.drop_of_length_le (by rw [List.length_map, List.length_map, sha_len, List.length_replicate]; omega), List.nil_append, List.append_nil]
              rw [hS] at hh
              have h2 : wr.heap[w.heap.size]? = _ := hg.obj HB.out.2.1 (by omega)
              have hsz : ((sha l).map bv).toArray.size = 32 := by rw [List.size_toArray, List.length_map, sha_len]
              have hone : ((sha l).map bv).toArray.all (·.oneCell') = true := all_oneCell_toArray (fun v hv => by obtain ⟨u, _, rfl⟩ := List.mem_map.1 hv; rfl)
              have hbw := Chg.below_new HB.out.1 hg (by intro k hk; omega)
              have hk1 := setRow_heap wr w.heap.size _ ((sha l).map bv).toArray _ _ h2
              have HE := Lib.hid (And.intro hh (And.intro h2 (And.intro hsz (And.intro hone (And.intro hbw hk1)))))
              clear hh hg hv8 hfl hS h2 hsz hone hbw hk1
              go_wp2_with (first
                | (refine wpList_load_row rfl 33 _ rfl (w.heap.size + 1) (by rfl) _ _ _ _ HE.out.1 Try.underlying33 (by kernel_rfl) (by rw [HE.out.2.2.1]; kernel_rfl) ?_)
                | (refine wpList_store_row rfl _ _ _ rfl w.heap.size ((sha l).map bv).toArray (by rfl) (by rfl) _ _ HE.out.2.1 (by rw [HE.out.2.2.1]; kernel_rfl) (by rw [HE.out.2.2.1]; kernel_rfl) HE.out.2.2.2.1 ?_))
              exact bodyPost_ret (results_cell_row (by rfl) _ _ w.heap.size _ ((sha l).map bv).toArray _ _ (by rfl) HE.out.2.2.2.2.2 Try.underlying33 (by kernel_rfl) (by rw [HE.out.2.2.1]; kernel_rfl)) rfl ⟨rfl, setRow_below HE.out.2.2.2.2.1 (Nat.le_refl _)⟩

/- Hash: an entry's hash, by the program. -/

def hashV (l : List UInt8) : Value := .agg (l.map bv).toArray
theorem bytes_one {l : List UInt8} : (l.map bv).toArray.all (·.oneCell') = true := all_oneCell_toArray (fun v hv => by obtain ⟨u, _, rfl⟩ := List.mem_map.1 hv; rfl)
/-- a hash is stored into the result's block, which is handed back -/
theorem hash_ret {w w0 : World} {g : Nat} {l : List UInt8} {old : Array Value} (hh : w.heap[g]? = some (.cells old 33 (0, 0))) (hb : Below w0.heap.size w0 w) (hg : w0.heap.size ≤ g) :
    (w.setRow g (l.map bv).toArray).heap[g]? = some (.cells (l.map bv).toArray 33 (0, 0)) ∧ Below w0.heap.size w0 (w.setRow g (l.map bv).toArray) := ⟨setRow_heap w g _ _ _ _ hh, setRow_below hb hg⟩
def zero32 : Array Value := #[.int .u8 0, .int .u8 0, .int .u8 0, .int .u8 0, .int .u8 0, .int .u8 0, .int .u8 0, .int .u8 0, .int .u8 0, .int .u8 0, .int .u8 0, .int .u8 0, .int .u8 0, .int .u8 0, .int .u8 0, .int .u8 0, .int .u8 0, .int .u8 0, .int .u8 0, .int .u8 0, .int .u8 0, .int .u8 0, .int .u8 0, .int .u8 0, .int .u8 0, .int .u8 0, .int .u8 0, .int .u8 0, .int .u8 0, .int .u8 0, .int .u8 0, .int .u8 0]
theorem sum2_any {w : World} {g k : Nat} {b : List UInt8} {a : Option Addr} {c : Nat} (h0 : w.cell? ⟨g, 0, none⟩ = some (.slice (some ⟨k, 0, none⟩) 1 1)) (h1 : w.cell? ⟨g, 1, none⟩ = some (.slice a b.length c)) (hr0 : RowAt w (some ⟨k, 0, none⟩) ([(0 : UInt8)].map bv)) (hr1 : RowAt w a (b.map bv)) (hc : b.length ≤ c) (hnil : ∀ x, a = some x → b ≠ [] → x.block < w.heap.size) (hbig : b.length ≤ 1099511626000) :
    Calls Try.prog 47 #[.slice (some ⟨g, 0, none⟩) 2 2] w fun e w' => e = .returned (hashV (leaf b)) ∧ Below w.heap.size w w' := by
  obtain ⟨w1, hw1, hb1, hz1, hx1⟩ := al1 w zero32 33
  have hl0 : k < w.heap.size := by
    obtain ⟨b1, o1, e1, hcl⟩ := hr0.at_ (k := 0) (by simp)
    cases e1
    exact cell_lt hcl
  have hgl : g < w.heap.size := cell_lt h0
  have cN := new_any w1
  have e0 := (hb1.cell (p := ⟨g, 0, none⟩) hgl).trans h0
  have e1 := (hb1.cell (p := ⟨g, 1, none⟩) hgl).trans h1
  have HK := Lib.hid (And.intro (hr0.below hb1) (And.intro (hr1.below hb1) (And.intro hb1 (And.intro hx1 (And.intro hnil hc)))))
  have hz1' : w.heap.size < w1.heap.size := by omega
  unfold zero32 at hw1
  clear h0 h1 hr0 hr1 hb1 hz1 hx1 hnil hc
  go_enter Try.func47, Try.ntmps47
  go_wp2_with ((with_reducible refine cN.mono ?_); rintro _ w2 ⟨s, rfl, hs, hS, hb2⟩)
  have hsw : s ≠ g ∧ s ≠ k := ⟨by omega, by omega⟩
  have hs1 : w.heap.size < s := by omega
  have H2 := Lib.hid (And.intro hS (And.intro hb2 hsw))
  clear hS hb2 cN hsw
  go_loopw [9] (fun i wr => ∃ j : Nat, j ≤ 2 ∧ i = .int .i64 j ∧ ShaAt wr s (([[(0 : UInt8)], b].take j).flatten) ∧ Chg (· = s) w2 wr) (fun i _ => 2 - (intOf i).toNat)
  case atStart => exact ⟨0, by omega, rfl, H2.out.1, Chg.refl _ _⟩
  case round =>
    obtain ⟨j, hj, rfl, hS, hg⟩ := hrel
    have hbr : Chg (· = s) w1 wr := (Chg.of_below H2.out.2.1).trans hg (fun _ h _ => h)
    have f0 : wr.cell? ⟨g, 0, none⟩ = _ := hbr.cell e0 (fun h => H2.out.2.2.1 h.symm)
    have f1 : wr.cell? ⟨g, 1, none⟩ = _ := hbr.cell e1 (fun h => H2.out.2.2.1 h.symm)
    obtain rfl | rfl | rfl : j = 0 ∨ j = 1 ∨ j = 2 := by omega
    · rw [show ((0 : Nat) : Int) = 0 from rfl]
      have cT := take_any hS (HK.out.1.kept (w' := wr) (fun b' hb' ⟨o, sp, e⟩ => by cases e; exact hbr.block _ hb' H2.out.2.2.2.symm)) (Nat.le_refl 1) (fun x hx _ => by cases hx; exact H2.out.2.2.2.symm) (by simp)
      rw [show ([(0 : UInt8)]).length = 1 from rfl] at cT
      have HG := Lib.hid hg
      clear hS hg hbr
      go_wp2_with ((with_reducible refine cT.mono ?_); rintro _ w5 ⟨⟨v5, rfl⟩, hS5, hg5⟩)
      have H5 := Lib.hid (And.intro hS5 (HG.out.trans hg5 (fun _ h _ => h)))
      clear hS5 hg5
      go_roundw
      case rel => exact ⟨1, by omega, rfl, H5.out.1, H5.out.2⟩
      case measure => simp [intOf]
    · rw [show ((1 : Nat) : Int) = 1 from rfl]
      have cT := take_any hS (fun hne => HK.out.2.1.kept (w' := wr) (fun b' hb' ⟨o, sp, e⟩ => hbr.block _ hb' (by have := HK.out.2.2.2.2.1 _ e (fun e0 => hne (by rw [e0]; rfl)); simp at this; omega)) hne) HK.out.2.2.2.2.2 (fun x hx hne => by have := HK.out.2.2.2.2.1 _ hx hne; omega) (by simp; omega)
      have HG := Lib.hid hg
      clear hS hg hbr
      go_wp2_with ((with_reducible refine cT.mono ?_); rintro _ w5 ⟨⟨v5, rfl⟩, hS5, hg5⟩)
      have H5 := Lib.hid (And.intro hS5 (HG.out.trans hg5 (fun _ h _ => h)))
      clear hS5 hg5
      go_roundw
      case rel => exact ⟨2, by omega, rfl, by have := H5.out.1; simpa using this, H5.out.2⟩
      case measure => simp [intOf]
    · rw [show ((2 : Nat) : Int) = 2 from rfl]
      have hlt : s < wr.heap.size := by
        obtain ⟨buf, -, -, h3⟩ := hS
        exact heap_lt h3
      have cS := sumM_any hS hlt (by simp; omega)
      rw [show [[(0 : UInt8)], b].take 2 = [[0], b] from rfl, show ([[(0 : UInt8)], b]).flatten = 0 :: b from by simp] at cS
      have hx5 : wr.heap[w.heap.size]? = some (.cells zero32 33 (0, 0)) := hbr.obj HK.out.2.2.2.1 (by omega)
      have hbw : Below w.heap.size w wr := Chg.below_new HK.out.2.2.1 hbr (by intro k hk; omega)
      have HE := Lib.hid (And.intro hx5 hbw)
      have hsz : ((sha (0 :: b)).map bv).toArray.size = 32 := by rw [List.size_toArray, List.length_map, sha_len]
      have HZ := Lib.hid hsz
      clear hS hg hbr hlt hx5 hbw hsz
      go_wp2_with fail
      ((with_reducible refine cS.mono ?_); rintro _ w6 ⟨rfl, hb6⟩)
      have HR := Lib.hid (hash_ret (l := sha (0 :: b)) (below_keep hb6 HE.out.1) (HE.out.2.trans (hb6.mono HE.out.2.size)) (Nat.le_refl _))
      have H6 := Lib.hid hb6
      clear hb6
      go_wp2_with (refine wpList_store_row rfl _ _ _ rfl w.heap.size ((sha (0 :: b)).map bv).toArray (by rfl) (by rfl) _ _ (below_keep H6.out HE.out.1) (by rw [HZ.out]; kernel_rfl) (by rw [HZ.out]; rfl) bytes_one ?_)
      exact bodyPost_ret (results_cell_row (by rfl) _ _ w.heap.size _ ((sha (0 :: b)).map bv).toArray _ _ (by rfl) HR.out.1 Try.underlying33 (by kernel_rfl) (by rw [HZ.out]; kernel_rfl)) rfl ⟨rfl, HR.out.2⟩

theorem of2_any {w : World} {g k : Nat} {b : List UInt8} {a : Option Addr} {c : Nat} (h0 : w.cell? ⟨g, 0, none⟩ = some (.slice (some ⟨k, 0, none⟩) 1 1)) (h1 : w.cell? ⟨g, 1, none⟩ = some (.slice a b.length c)) (hr0 : RowAt w (some ⟨k, 0, none⟩) ([(0 : UInt8)].map bv)) (hr1 : RowAt w a (b.map bv)) (hc : b.length ≤ c) (hnil : ∀ x, a = some x → b ≠ [] → x.block < w.heap.size) (hbig : b.length ≤ 1099511626000) :
    Calls Try.prog 37 #[.slice (some ⟨g, 0, none⟩) 2 2] w fun e w' => e = .returned (hashV (leaf b)) ∧ Below w.heap.size w w' := by
  obtain ⟨w1, hw1, hb1, hz1, hx1⟩ := al1 w zero32 33
  have cS := sum2_any (w := w1) ((hb1.cell (p := ⟨g, 0, none⟩) (cell_lt h0)).trans h0) ((hb1.cell (p := ⟨g, 1, none⟩) (cell_lt h1)).trans h1) (hr0.below hb1) (hr1.below hb1) hc (fun x hx hne => by have := hnil x hx hne; omega) hbig
  have HE := Lib.hid (And.intro hx1 hb1)
  have HZ : Hid (((leaf b).map bv).toArray.size = 32) := by show _ = _; rw [List.size_toArray, List.length_map, leaf_len]
  have hz1' : w.heap.size < w1.heap.size := by omega
  unfold zero32 at hw1
  unfold hashV at cS ⊢
  clear h0 h1 hr0 hr1 hb1 hz1 hx1 hnil hc
  go_enter Try.func37, Try.ntmps37
  go_wp2_with fail
  ((with_reducible refine cS.mono ?_); rintro _ w6 ⟨rfl, hb6⟩)
  have HR := Lib.hid (hash_ret (l := leaf b) (below_keep hb6 HE.out.1) (HE.out.2.trans (hb6.mono HE.out.2.size)) (Nat.le_refl _))
  have H6 := Lib.hid hb6
  clear hb6
  go_wp2_with (refine wpList_store_row rfl _ _ _ rfl w.heap.size ((leaf b).map bv).toArray (by rfl) (by rfl) _ _ (below_keep H6.out HE.out.1) (by rw [HZ.out]; kernel_rfl) (by rw [HZ.out]; rfl) bytes_one ?_)
  exact bodyPost_ret (results_cell_row (by rfl) _ _ w.heap.size _ ((leaf b).map bv).toArray _ _ (by rfl) HR.out.1 Try.underlying33 (by kernel_rfl) (by rw [HZ.out]; kernel_rfl)) rfl ⟨rfl, HR.out.2⟩
theorem hashLeaf_any {w : World} {b : List UInt8} {a : Option Addr} {c : Nat} (hr : RowAt w a (b.map bv)) (hc : b.length ≤ c) (hnil : ∀ x, a = some x → b ≠ [] → x.block < w.heap.size) (hbig : b.length ≤ 1099511626000) :
    Calls Try.prog 24 #[.slice a b.length c] w fun e w' => e = .returned (hashV (leaf b)) ∧ Below w.heap.size w w' := by
  obtain ⟨w1, hw1, hb1, hz1, hx1⟩ := al1 w zero32 33
  obtain ⟨w2, hw2, hb2, hz2, hx2⟩ := al1 w1 #[.int .u8 0] 5
  obtain ⟨w3, hw3, hb3, hz3, hx3⟩ := al1 w2 #[.slice (some ⟨w1.heap.size, 0, none⟩) 1 1, .slice a b.length c] 30
  have hb12 := hb2.trans (B := w1.heap.size) (hb3.mono hb2.size)
  have cS := of2_any (w := w3) (b := b) (cell_of_heap hx3 (i := 0) (by rfl)) (cell_of_heap hx3 (i := 1) (by rfl)) (RowAt.of_row fun j u hu => cell_of_heap (below_keep hb3 hx2) (by
    cases j with
    | zero => simpa [bv] using hu
    | succ j => simp at hu)) ((hr.below hb1).below hb12) hc (fun x hx hne => by have := hnil x hx hne; omega) hbig
  have HE := Lib.hid (And.intro (below_keep hb12 hx1) (hb1.trans (hb12.mono hb1.size)))
  have HZ : Hid (((leaf b).map bv).toArray.size = 32) := by show _ = _; rw [List.size_toArray, List.length_map, leaf_len]
  have hz1' : w.heap.size < w3.heap.size := by omega
  unfold zero32 at hw1
  unfold hashV at cS ⊢
  clear hr hb1 hz1 hx1 hb2 hz2 hx2 hb3 hz3 hx3 hb12 hnil hc
  go_enter Try.func24, Try.ntmps24
  go_wp2_with fail
  ((with_reducible refine cS.mono ?_); rintro _ w6 ⟨rfl, hb6⟩)
  have HR := Lib.hid (hash_ret (l := leaf b) (below_keep hb6 HE.out.1) (HE.out.2.trans (hb6.mono HE.out.2.size)) (Nat.le_refl _))
  have H6 := Lib.hid hb6
  clear hb6
  go_wp2_with (refine wpList_store_row rfl _ _ _ rfl w.heap.size ((leaf b).map bv).toArray (by rfl) (by rfl) _ _ (below_keep H6.out HE.out.1) (by rw [HZ.out]; kernel_rfl) (by rw [HZ.out]; rfl) bytes_one ?_)
  exact bodyPost_ret (results_cell_row (by rfl) _ _ w.heap.size _ ((leaf b).map bv).toArray _ _ (by rfl) HR.out.1 Try.underlying33 (by kernel_rfl) (by rw [HZ.out]; kernel_rfl)) rfl ⟨rfl, HR.out.2⟩

/- Sha, the reference: eight, words, First, New. -/

theorem Try.info5 : (Try.prog.info? 5).map (fun i => (i.zero, i.size, i.bytes)) = some (some (.int .u8 0), 1, 1) := by kernel_rfl
theorem bytes_one' {l : List UInt8} : ∀ u ∈ l.map bv, u.oneCell' = true := fun u hu => by obtain ⟨_, _, rfl⟩ := List.mem_map.1 hu; rfl
theorem row_below {w w' : World} {base : Nat} {e : TypeId} {size n : Nat} {v : Value} {xs : List Value} (h : w.ownsRow base e size v n xs) (hb : Below w.heap.size w w') : w'.ownsRow base e size v n xs := (Chg.of_below (O := fun _ => False) hb).row h (fun _ _ h => h)
theorem rfirst_any (w : World) : Calls Try.prog 70 #[] w fun e w' => e = .returned (.agg (sha0.map uv).toArray) ∧ Below w.heap.size w w' := by
  go_enter Try.func70, Try.ntmps70
  go_wp2
  exact bodyPost_ret (v := .agg (sha0.map uv).toArray) (by simp [results, Try.results70, go_sem]; kernel_rfl) rfl ⟨rfl, below_alloc _ _⟩
/-- a sum under way of the reference, as a value -/
def underV (st : List UInt32) (n : Nat) (r : Value) : Array Value := (st.map uv ++ [.int .i64 (n : Int), r]).toArray
theorem rnew_any (w : World) : Calls Try.prog 50 #[] w fun e w' => e = .returned (.agg (underV sha0 0 (.slice none 0 0))) ∧ Below w.heap.size w w' := by
  obtain ⟨w1, hw1, hb1, hz1, hx1⟩ := al1 w #[.int .u32 0, .int .u32 0, .int .u32 0, .int .u32 0, .int .u32 0, .int .u32 0, .int .u32 0, .int .u32 0, .int .i64 0, .slice none 0 0] 85
  have cF := rfirst_any w1
  go_enter Try.func50, Try.ntmps50
  go_wp2_with fail
  ((with_reducible refine cF.mono ?_); rintro _ w2 ⟨rfl, hb2⟩)
  have HX := Lib.hid (And.intro (below_keep hb2 hx1) (hb1.trans (hb2.mono hb1.size)))
  clear hb2 hb1 hz1 hx1 cF
  go_wp2_with (first | (refine wpList_build_of rfl _ _ rfl (underV sha0 0 (.slice none 0 0)) (by kernel_rfl) ?_) | (refine wpList_store_row rfl _ _ _ rfl w.heap.size (underV sha0 0 (.slice none 0 0)) (by rfl) (by rfl) _ _ HX.out.1 (by kernel_rfl) (by kernel_rfl) (by kernel_rfl) ?_))
  exact bodyPost_ret (results_cell_row (by rfl) _ _ w.heap.size _ (underV sha0 0 (.slice none 0 0)) _ _ (by rfl) (setRow_heap _ _ _ _ _ _ HX.out.1) Try.underlying85 (by kernel_rfl) (by kernel_rfl)) rfl ⟨rfl, setRow_below HX.out.2 (Nat.le_refl _)⟩
theorem eight_any {w : World} (n : Nat) (hn : n < 18446744073709551616) : Calls Try.prog 72 #[.int .u64 (n : Int)] w fun e w' => ∃ v, e = .returned v ∧ w'.ownsRow w.heap.size 5 1 v 8 ((be8 n).map bv) ∧ Below w.heap.size w w' := by
  have hmax : maxLen = 9223372036854775807 := rfl
  obtain ⟨i0, hi, hz0, hz1, hz2⟩ := info_parts Try.info5
  go_enter Try.func72, Try.ntmps72
  go_wp2
  go_loopw [3, 4] (fun v i wr => ∃ j : Nat, j ≤ 8 ∧ i = .int .i64 (56 - 8 * (j : Int)) ∧ wr.ownsRow w.heap.size 5 1 v j (((be8 n).take j).map bv) ∧ Below w.heap.size w wr) (fun _ i _ => (intOf i + 8).toNat)
  case atStart => exact ⟨0, by omega, rfl, World.ownsRow_nil _ _ _ _, Below.refl _ _⟩
  case round =>
    obtain ⟨j, hj, rfl, hr, hb⟩ := hrel
    by_cases hlt : j < 8
    · obtain ⟨x, hx⟩ : ∃ x, (be8 n)[j]? = some x := ⟨_, List.getElem?_eq_getElem (by simpa [be8] using hlt)⟩
      obtain ⟨k, hk⟩ : ∃ k : Nat, (56 : Int) - 8 * (j : Int) = (k : Int) := ⟨56 - 8 * j, by omega⟩
      have hxv : (n : Int) / 2 ^ k % 256 = (x.toNat : Int) := by
        have hk' : k = 56 - 8 * j := by omega
        subst hk'
        clear hk
        obtain rfl | rfl | rfl | rfl | rfl | rfl | rfl | rfl : j = 0 ∨ j = 1 ∨ j = 2 ∨ j = 3 ∨ j = 4 ∨ j = 5 ∨ j = 6 ∨ j = 7 := by omega
        all_goals (simp [be8] at hx; subst hx; simp; try omega)
      have htk : ((be8 n).take j).map bv ++ [bv x] = ((be8 n).take (j + 1)).map bv := by rw [List.take_add_one, hx, List.map_append]; rfl
      have hk0 : (0 : Int) ≤ (k : Int) := by omega
      have hk1 : (k : Int) < 64 := by omega
      obtain ⟨va, vc, rfl, -, -⟩ := RowAt.of_owns hr
      obtain ⟨w1, hw1, hb1, hz1, hx1⟩ := al1 wr #[.int .u8 (x.toNat : Int)] 5
      have hrow : RowAt w1 (some ⟨wr.heap.size, 0, none⟩) [bv x] := RowAt.of_row fun j u hu => cell_of_heap hx1 (by
        cases j with
        | zero => simpa [bv] using hu
        | succ j => simp at hu)
      have hr1 := row_below hr hb1
      have hs1 : w.heap.size ≤ w1.heap.size := by have := hb.size; omega
      have HS := Lib.hid (And.intro (hb.trans (hb1.mono hb.size)) hk)
      have HR := Lib.hid (And.intro hrow (And.intro hr1 htk))
      clear hr hb hx htk hb1 hz1 hx1 hrow hr1
      rw [hk]
      go_wp2_with (at_builtin; refine wpList_append_any _ rfl (.tmp 9) (.tmp 14) 30 rfl w.heap.size 5 i0 (.int .u8 0) 1 Try.underlying30 hi hz0 hz1 hz2 rfl _ j _ rfl HR.out.2.1 (some ⟨wr.heap.size, 0, none⟩) 1 1 [bv x] rfl (by simp) (by simp) HR.out.1 (by simp [bv, Value.oneCell']) (by omega) (by omega) hs1 ?_; intro v1 w2 hv1 hg1)
      have H2 := Lib.hid (And.intro hv1 (HS.out.1.grown hg1 hs1 (fun k hk => (HR.out.2.1.lt k hk).1)))
      clear hv1 hg1
      go_roundw
      case rel => exact ⟨j + 1, by omega, by have := HS.out.2; rw [show (k : Int) - 8 = 56 - 8 * ((j + 1 : Nat) : Int) from by omega], by rw [← HR.out.2.2]; exact H2.out.1, H2.out.2⟩
      case measure => simp [intOf]; omega
    · obtain rfl : j = 8 := by omega
      rw [show (56 : Int) - 8 * ((8 : Nat) : Int) = -8 from rfl]
      have H2 := Lib.hid (And.intro hr hb)
      clear hr hb
      go_wp2
      go_ret
      exact ⟨_, rfl, by have := H2.out.1; rw [List.take_of_length_le (by simp [be8])] at this; exact this, H2.out.2⟩

end Go.Proofs.Ytljobojdcnhecaa
