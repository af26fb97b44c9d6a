/- Texts of this claim, one behind the other: IaE. -/
import Derived.Test.YtljobojdcnhecaaFm01
import Derived.Test.YtljobojdcnhecaaFm02
import Derived.StillTailTactics
import Derived.IntWalk
set_option linter.unusedSimpArgs false
set_option linter.unusedVariables false
set_option maxRecDepth 100000
set_option maxHeartbeats 4000000
namespace Go.Proofs.Ytljobojdcnhecaa
/- Sha: the program turns a state by a block. -/
open Go.RowKit Go.Maps

/-- 64 words, of which the first are known -/
def wArr (L : List UInt32) : Array Value := (L.map uv ++ List.replicate (64 - L.length) (uv 0)).toArray
theorem wArr_size {L : List UInt32} (h : L.length ≤ 64) : (wArr L).size = 64 := by simp [wArr]; omega
theorem wArr_get {L : List UInt32} {i : Nat} (h : i < L.length) : (wArr L)[i]? = some (uv (L.getD i 0)) := by
  simp [wArr, List.getElem?_append_left, h]
theorem wArr_zero {L : List UInt32} {i : Nat} (h : L.length ≤ i) (h2 : i < 64) : (wArr L)[i]? = some (uv 0) := by
  unfold wArr
  rw [List.getElem?_toArray, List.getElem?_append_right (by simpa using h), List.getElem?_replicate, List.length_map, if_pos (by omega)]
theorem wArr_put {L : List UInt32} (x : UInt32) (h : L.length < 64) : (wArr L).setIfInBounds L.length (uv x) = wArr (L ++ [x]) := by
  unfold wArr
  rw [List.setIfInBounds_toArray]
  congr 1
  obtain ⟨k, hk⟩ : ∃ k, 64 - L.length = k + 1 := ⟨63 - L.length, by omega⟩
  rw [hk, List.replicate_succ, List.set_append_right _ _ (by simp), List.length_map, Nat.sub_self, List.set_cons_zero, List.map_append, List.length_append, show 64 - (L.length + [x].length) = k from by simp; omega]
  simp
theorem wArr_put2 {L : List UInt32} (x y : UInt32) (h : L.length < 64) : (wArr (L ++ [x])).setIfInBounds L.length (uv y) = wArr (L ++ [y]) := by
  unfold wArr
  rw [List.setIfInBounds_toArray]
  congr 1
  rw [List.map_append, List.map_append, List.append_assoc, List.set_append_right _ _ (by simp), List.length_map, Nat.sub_self, List.append_assoc, List.length_append, List.length_append]
  rfl
theorem words16_snoc : ∀ n (l : List UInt8), words16 (n + 1) l = words16 n l ++ [word4 ((l.drop (4 * n)).take 4)]
  | 0, l => rfl
  | n + 1, l => by
    rw [words16, words16_snoc n, words16, List.drop_drop, show 4 + 4 * n = 4 * (n + 1) from by omega, List.cons_append]
theorem wArr_nil : wArr [] = (List.replicate 64 (uv 0)).toArray := rfl
theorem u_add' (a b : UInt32) : ((a.toNat : Int) + (b.toNat : Int)) % 4294967296 = (((a + b).toNat : Nat) : Int) := by rw [UInt32.toNat_add]; omega
theorem cell_off {w : World} {g i j : Nat} {u v : Value} (h : w.cell? ⟨g, j, none⟩ = some u) (hn : i ≠ j) : (w.setCell ⟨g, i, none⟩ v).cell? ⟨g, j, none⟩ = some u := by
  rw [World.cell?_setCell_other _ _ _ _ (by simp [hn])]; exact h
theorem u_shr (x : UInt32) (n : Nat) (h : n < 32) : (x.toNat : Int) / 2 ^ n = (((x >>> UInt32.ofNat n).toNat : Nat) : Int) := by
  rw [UInt32.toNat_shiftRight, UInt32.toNat_ofNat', Nat.shiftRight_eq_div_pow, show n % 2 ^ 32 % 32 = n from by omega]; push_cast; rfl
theorem u_not (x : UInt32) : bits .xor .u32 4294967295 (x.toNat : Int) = (((~~~ x).toNat : Nat) : Int) := by
  have h := u32_xor_nat 4294967295 x.toNat (by omega) (u_lt x)
  rw [show ((4294967295 : Nat) : Int) = 4294967295 from rfl] at h
  rw [h, UInt32.toNat_not]
  congr 1
  have hx := u_lt x
  apply Nat.eq_of_testBit_eq
  intro i
  rw [Nat.testBit_xor, show UInt32.size - 1 - x.toNat = 2 ^ 32 - (x.toNat + 1) from by simp [UInt32.size], Nat.testBit_two_pow_sub_succ (by omega), show 4294967295 = 2 ^ 32 - 1 from rfl, Nat.testBit_two_pow_sub_one]
  by_cases hi : i < 32
  · simp [hi]
  · have : x.toNat.testBit i = false := Nat.testBit_lt_two_pow (Nat.lt_of_lt_of_le hx (by have := Nat.pow_le_pow_right (n := 2) (by omega) (show 32 ≤ i from by omega); omega))
    simp [hi, this]
/-- a slice of an array behind a pointer, from a place on -/
theorem run_sliceAt_from {P : Program} (t : TypeId) (e : TypeId) (n : Nat) (ht : P.underlying t = some (.array n e)) (he : ∀ w, (sizeOf e).run P w = Result.ok 1 w) (g k : Nat) (hk : k < n) (kl : IntKind) (l : Int) (hl : l = (k : Int)) (w : World) :
    (Instr.sliceAt t (.pointer (some ⟨g, 0, none⟩)) (some (.int kl l)) none none).run P w = Result.ok (.slice (some ⟨g, k, none⟩) (n - k) (n - k)) w := by
  subst hl
  have e1 : P.elem t = e := by simp [Program.elem, ht]
  have e2 : P.arrayLen t = n := by simp [Program.arrayLen, ht]
  rw [run_sliceAt_array_l (t := t) (ht := by rw [e1, e2]; exact ht) (kl := kl) (h0 := by omega) (h1 := by omega), e1, e2, he]
  simp [Result.andThen, slicedAt, addr_add, show n ≠ k from by omega]
theorem row_of_heap {w : World} {p : Nat} {l : List UInt8} {e : TypeId} {f : Nat × Nat} (h : w.heap[p]? = some (.cells (l.map bv).toArray e f)) (k : Nat) : RowAt w (some ⟨p, k, none⟩) ((l.drop k).map bv) := fun _ =>
  ⟨p, k, rfl, fun j u hu => cell_of_heap h (by rw [List.getElem?_toArray, ← hu, List.map_drop, List.getElem?_drop])⟩
theorem below_keep {w w' : World} (hb : Below w.heap.size w w') {b : Nat} {o : Obj} (h : w.heap[b]? = some o) : w'.heap[b]? = some o := (hb.block b (heap_lt h)).trans h
theorem below_set {w w' : World} (hb : Below w.heap.size w w') {b i : Nat} (h : w.heap.size ≤ b) (v : Value) : Below w.heap.size w (w'.setCell ⟨b, i, none⟩ v) := hb.setCell h _
theorem list8 {l : List UInt32} (h : l.length = 8) : ∃ a b c d e f g i, l = [a, b, c, d, e, f, g, i] := by
  match l, h with
  | [a, b, c, d, e, f, g, i], _ => exact ⟨_, _, _, _, _, _, _, _, rfl⟩
theorem set8 {w0 w : World} {p : Nat} {v0 v1 v2 v3 v4 v5 v6 v7 u0 u1 u2 u3 u4 u5 u6 u7 : Value} {e : TypeId} (h : w.heap[p]? = some (.cells #[v0, v1, v2, v3, v4, v5, v6, v7] e (0, 0))) (hb : Below w0.heap.size w0 w) (hp : w0.heap.size ≤ p) : ((((((((w.setCell ⟨p, 0, none⟩ u0).setCell ⟨p, 1, none⟩ u1).setCell ⟨p, 2, none⟩ u2).setCell ⟨p, 3, none⟩ u3).setCell ⟨p, 4, none⟩ u4).setCell ⟨p, 5, none⟩ u5).setCell ⟨p, 6, none⟩ u6).setCell ⟨p, 7, none⟩ u7).heap[p]? = some (.cells #[u0, u1, u2, u3, u4, u5, u6, u7] e (0, 0)) ∧ Below w0.heap.size w0 ((((((((w.setCell ⟨p, 0, none⟩ u0).setCell ⟨p, 1, none⟩ u1).setCell ⟨p, 2, none⟩ u2).setCell ⟨p, 3, none⟩ u3).setCell ⟨p, 4, none⟩ u4).setCell ⟨p, 5, none⟩ u5).setCell ⟨p, 6, none⟩ u6).setCell ⟨p, 7, none⟩ u7) := by
  have h0 := heap_set_cells (i := 0) u0 h
  have b0 := below_set (i := 0) hb hp u0
  have h1 := heap_set_cells (i := 1) u1 h0
  have b1 := below_set (i := 1) b0 hp u1
  have h2 := heap_set_cells (i := 2) u2 h1
  have b2 := below_set (i := 2) b1 hp u2
  have h3 := heap_set_cells (i := 3) u3 h2
  have b3 := below_set (i := 3) b2 hp u3
  have h4 := heap_set_cells (i := 4) u4 h3
  have b4 := below_set (i := 4) b3 hp u4
  have h5 := heap_set_cells (i := 5) u5 h4
  have b5 := below_set (i := 5) b4 hp u5
  have h6 := heap_set_cells (i := 6) u6 h5
  have b6 := below_set (i := 6) b5 hp u6
  have h7 := heap_set_cells (i := 7) u7 h6
  have b7 := below_set (i := 7) b6 hp u7
  refine ⟨?_, b7⟩
  rw [h7]
  simp
def addTo (R v : List UInt32) (j : Nat) : List UInt32 := (List.zipWith (· + ·) R v).take j ++ R.drop j
theorem addTo_get {R v : List UInt32} {j : Nat} (hR : R.length = 8) (hv : v.length = 8) (hj : j < 8) : (addTo R v j).getD j 0 = R.getD j 0 ∧ (addTo R v j).set j (R.getD j 0 + v.getD j 0) = addTo R v (j + 1) ∧ (addTo R v j).length = 8 := by
  obtain ⟨a, b, c, d, e, f, g, h, rfl⟩ := list8 hR
  obtain ⟨a1, b1, c1, d1, e1, f1, g1, h1, rfl⟩ := list8 hv
  obtain rfl | rfl | rfl | rfl | rfl | rfl | rfl | rfl : j = 0 ∨ j = 1 ∨ j = 2 ∨ j = 3 ∨ j = 4 ∨ j = 5 ∨ j = 6 ∨ j = 7 := by omega
  all_goals exact ⟨rfl, rfl, rfl⟩
theorem words_get {w : World} {p i : Nat} {L : List UInt32} {e : TypeId} {f : Nat × Nat} (h : w.heap[p]? = some (.cells (L.map uv).toArray e f)) (hi : i < L.length) : w.cell? ⟨p, i, none⟩ = some (uv (L.getD i 0)) :=
  cell_of_heap h (by simp [hi])
theorem words_set {w : World} {p i : Nat} {L : List UInt32} {e : TypeId} {f : Nat × Nat} (x : UInt32) (h : w.heap[p]? = some (.cells (L.map uv).toArray e f)) : (w.setCell ⟨p, i, none⟩ (uv x)).heap[p]? = some (.cells ((L.set i x).map uv).toArray e f) := by
  rw [heap_set_cells (uv x) h, List.setIfInBounds_toArray, List.map_set]
/-- a word more, of turned ones; each step under a name -/
theorem mix (x s : UInt32) (i j k : Nat) (hk : k < 32) (m : Int) (hm : m = 2 ^ k) : ∃ xi xj xk xa xb r : UInt32, rotr x i = xi ∧ rotr x j = xj ∧ (x.toNat : Int) / m = (xk.toNat : Int) ∧ bits .xor .u32 (xi.toNat : Int) (xj.toNat : Int) = (xa.toNat : Int) ∧
    bits .xor .u32 (xa.toNat : Int) (xk.toNat : Int) = (xb.toNat : Int) ∧ IntKind.u32.wrap ((s.toNat : Int) + (xb.toNat : Int)) = (r.toNat : Int) ∧ ((s.toNat : Int) + (xb.toNat : Int)) % 4294967296 = (r.toNat : Int) ∧ Hid (r = s + (rotr x i ^^^ rotr x j ^^^ (x >>> UInt32.ofNat k))) :=
  ⟨_, _, _, _, _, _, rfl, rfl, by rw [hm]; exact u_shr x k hk, u_xor _ _, u_xor _ _, u_add _ _, u_add' _ _, rfl⟩
theorem mixX (e f g h k w : UInt32) : ∃ r6 r11 r25 ra rb s1 ef ne neg ch s2 s3 s4 : UInt32, rotr e 6 = r6 ∧ rotr e 11 = r11 ∧ rotr e 25 = r25 ∧ bits .xor .u32 (r6.toNat : Int) (r11.toNat : Int) = (ra.toNat : Int) ∧ bits .xor .u32 (ra.toNat : Int) (r25.toNat : Int) = (rb.toNat : Int) ∧
    (IntKind.u32.wrap ((h.toNat : Int) + (rb.toNat : Int)) = (s1.toNat : Int) ∧ ((h.toNat : Int) + (rb.toNat : Int)) % 4294967296 = (s1.toNat : Int)) ∧ bits .and .u32 (e.toNat : Int) (f.toNat : Int) = (ef.toNat : Int) ∧ bits .xor .u32 IntKind.u32.max (e.toNat : Int) = (ne.toNat : Int) ∧ bits .and .u32 (ne.toNat : Int) (g.toNat : Int) = (neg.toNat : Int) ∧ bits .xor .u32 (ef.toNat : Int) (neg.toNat : Int) = (ch.toNat : Int) ∧
    (IntKind.u32.wrap ((s1.toNat : Int) + (ch.toNat : Int)) = (s2.toNat : Int) ∧ ((s1.toNat : Int) + (ch.toNat : Int)) % 4294967296 = (s2.toNat : Int)) ∧ (IntKind.u32.wrap ((s2.toNat : Int) + (k.toNat : Int)) = (s3.toNat : Int) ∧ ((s2.toNat : Int) + (k.toNat : Int)) % 4294967296 = (s3.toNat : Int)) ∧ (IntKind.u32.wrap ((s3.toNat : Int) + (w.toNat : Int)) = (s4.toNat : Int) ∧ ((s3.toNat : Int) + (w.toNat : Int)) % 4294967296 = (s4.toNat : Int)) ∧
    Hid (s4 = h + Sg1 e + ((e &&& f) ^^^ (~~~ e &&& g)) + k + w) :=
  ⟨_, _, _, _, _, _, _, _, _, _, _, _, _, rfl, rfl, rfl, u_xor _ _, u_xor _ _, ⟨u_add _ _, u_add' _ _⟩, u_and _ _, u_not _, u_and _ _, u_xor _ _, ⟨u_add _ _, u_add' _ _⟩, ⟨u_add _ _, u_add' _ _⟩, ⟨u_add _ _, u_add' _ _⟩, rfl⟩
theorem mixY (a b c : UInt32) : ∃ r2 r13 r22 ra rb ab ac m1 bc m2 y : UInt32, rotr a 2 = r2 ∧ rotr a 13 = r13 ∧ rotr a 22 = r22 ∧ bits .xor .u32 (r2.toNat : Int) (r13.toNat : Int) = (ra.toNat : Int) ∧ bits .xor .u32 (ra.toNat : Int) (r22.toNat : Int) = (rb.toNat : Int) ∧
    bits .and .u32 (a.toNat : Int) (b.toNat : Int) = (ab.toNat : Int) ∧ bits .and .u32 (a.toNat : Int) (c.toNat : Int) = (ac.toNat : Int) ∧ bits .xor .u32 (ab.toNat : Int) (ac.toNat : Int) = (m1.toNat : Int) ∧ bits .and .u32 (b.toNat : Int) (c.toNat : Int) = (bc.toNat : Int) ∧ bits .xor .u32 (m1.toNat : Int) (bc.toNat : Int) = (m2.toNat : Int) ∧
    (IntKind.u32.wrap ((rb.toNat : Int) + (m2.toNat : Int)) = (y.toNat : Int) ∧ ((rb.toNat : Int) + (m2.toNat : Int)) % 4294967296 = (y.toNat : Int)) ∧ Hid (y = Sg0 a + ((a &&& b) ^^^ (a &&& c) ^^^ (b &&& c))) :=
  ⟨_, _, _, _, _, _, _, _, _, _, _, rfl, rfl, rfl, u_xor _ _, u_xor _ _, u_and _ _, u_and _ _, u_xor _ _, u_and _ _, u_xor _ _, ⟨u_add _ _, u_add' _ _⟩, rfl⟩
theorem mixS (a b : UInt32) : ∃ s : UInt32, (IntKind.u32.wrap ((a.toNat : Int) + (b.toNat : Int)) = (s.toNat : Int) ∧ ((a.toNat : Int) + (b.toNat : Int)) % 4294967296 = (s.toNat : Int)) ∧ Hid (s = a + b) := ⟨_, ⟨u_add _ _, u_add' _ _⟩, rfl⟩
theorem tableC_get {i : Nat} (h : i < 64) : tableC[i]? = some (uv (shaK.getD i 0)) := by
  have h' : i < shaK.length := h
  simp [tableC, List.getElem?_eq_getElem h']
theorem below_drewN {w w' : World} (h : Below w.heap.size w w') (q : Nat) : Below w.heap.size w (w'.drewN q) := ⟨h.os, h.tape, h.output, h.size, h.block⟩
theorem rot_to {x r : UInt32} {n : Nat} {m : Int} (hr : rotr x n = r) (h0 : 0 < n) (h1 : n < 32) (hm : m = (n : Int)) (w : World) : Calls Try.prog 88 #[.int .u32 (x.toNat : Int), .int .i64 m] w fun e w' => e = .returned (.int .u32 (r.toNat : Int)) ∧ w' = w := by
  subst hm; rw [← hr]; exact (rot_any x n h0 h1 w).mono fun _ _ h => ⟨h.1, h.2.symm⟩
theorem Block_any {w : World} {v : List UInt32} {l : List UInt8} (hv : v.length = 8) (hl : l.length = 64) :
    Calls Try.prog 81 #[.agg (v.map uv).toArray, .agg (l.map bv).toArray] w fun e w' => e = .returned (.agg ((turn v l).map uv).toArray) ∧ Below w.heap.size w w' := by
  match v, hv with
  | [a, b, c, d, e, f, g, h], _ =>
  have hT : (turn [a, b, c, d, e, f, g, h] l).length = 8 := turn_len rfl
  obtain ⟨w3, hw3, hb3, hz3, hxA, hxB, hxC⟩ := al3 w #[.int .u32 (a.toNat : Int), .int .u32 (b.toNat : Int), .int .u32 (c.toNat : Int), .int .u32 (d.toNat : Int), .int .u32 (e.toNat : Int), .int .u32 (f.toNat : Int), .int .u32 (g.toNat : Int), .int .u32 (h.toNat : Int)] 83 (l.map bv).toArray 114 #[.int .u32 0, .int .u32 0, .int .u32 0, .int .u32 0, .int .u32 0, .int .u32 0, .int .u32 0, .int .u32 0] 83
  have HB := Lib.hid (And.intro hb3 (And.intro hxA (And.intro hxB hxC)))
  have hg3 : w.heap.size + 2 < w3.heap.size := by omega
  have HZ := Lib.hid hz3
  clear hb3 hxA hxB hxC hz3
  simp only [List.map_cons, List.map_nil]
  unfold uv
  go_enter Try.func81, Try.ntmps81
  go_wp2
  go_loopw [18] (fun i wr => ∃ t : Nat, t ≤ 16 ∧ i = .int .i64 t ∧ wr.heap[w3.heap.size]? = some (.cells (wArr (words16 t l)) 119 (0, 0)) ∧ Below w3.heap.size w3 wr) (fun i _ => 16 - (intOf i).toNat)
  case atStart => exact ⟨0, by omega, rfl, World.alloc_heap_new _ _, below_alloc _ _⟩
  case round =>
    obtain ⟨t, ht, rfl, hD, hbr⟩ := hrel
    by_cases hlt : t < 16
    · have hrow := row_of_heap (below_keep hbr HB.out.2.2.1) (4 * t)
      have cW := word_any (c := 64 - 4 * t) (n := 64 - 4 * t) hrow (by rw [List.length_drop, hl]) (by rw [List.length_drop, hl]; omega) (Nat.le_refl _) (by omega)
      have hL := words16_len t l
      have hput := wArr_put (L := words16 t l) (word4 ((l.drop (4 * t)).take 4)) (by omega)
      rw [hL, ← words16_snoc] at hput
      have hD2 := heap_set_cells (i := t) (uv (word4 ((l.drop (4 * t)).take 4))) hD
      rw [hput] at hD2
      have hc0 : wr.cell? ⟨w3.heap.size, t, none⟩ = some (uv 0) := cell_of_heap hD (wArr_zero (by omega) (by omega))
      have hf0 : wr.frozen? ⟨w3.heap.size, t, none⟩ = false := frozen_of_heap hD
      have hs1 := run_sliceAt_from (P := Try.prog) 114 5 64 Try.underlying114 (fun w => by kernel_rfl) (w.heap.size + 1) (4 * t) (by omega) .i64 (4 * (t : Int)) (by omega) wr
      have HD := Lib.hid (And.intro hD2 (below_set hbr (i := t) (Nat.le_refl _) (uv (word4 ((l.drop (4 * t)).take 4)))))
      unfold uv at hc0
      clear hD hD2 hput hrow hL hbr hT
      go_wp2_with (go_at_call 87; refine (cW).mono ?_; rintro _ wz ⟨rfl, rfl⟩)
      go_roundw
      case rel => exact ⟨t + 1, by omega, by go_num, HD.out.1, HD.out.2⟩
      case measure => simp [intOf]; omega
    · obtain rfl : t = 16 := by omega
      rw [show ((16 : Nat) : Int) = 16 from rfl]
      clear hlt ht
      have H0 := Lib.hid (And.intro hD hbr)
      clear hD hbr
      go_wp2
      go_loopw [7] (fun i wr => ∃ n : Nat, n ≤ 48 ∧ i = .int .i64 (16 + (n : Int)) ∧ wr.heap[w3.heap.size]? = some (.cells (wArr (sched l n)) 119 (0, 0)) ∧ Below w3.heap.size w3 wr) (fun i _ => 64 - (intOf i).toNat)
      case atStart => exact ⟨0, by omega, rfl, H0.out.1, H0.out.2⟩
      case round =>
        clear H0
        obtain ⟨n, hn, rfl, hD, hbr⟩ := hrel
        by_cases hlt : n < 48
        · have hL := sched_len l n
          obtain ⟨x, hx⟩ : ∃ x, (sched l n).getD (n + 1) 0 = x := ⟨_, rfl⟩
          obtain ⟨y, hy⟩ : ∃ y, (sched l n).getD (n + 14) 0 = y := ⟨_, rfl⟩
          obtain ⟨p, hp⟩ : ∃ p, (sched l n).getD n 0 = p := ⟨_, rfl⟩
          obtain ⟨q, hq⟩ : ∃ q, (sched l n).getD (n + 9) 0 = q := ⟨_, rfl⟩
          have d1 := cell_of_heap hD (i := n + 1) (wArr_get (by omega))
          have d2 := cell_of_heap hD (i := n + 14) (wArr_get (by omega))
          have d3 := cell_of_heap hD (i := n) (wArr_get (by omega))
          have d4 := cell_of_heap hD (i := n + 9) (wArr_get (by omega))
          rw [hx] at d1
          rw [hy] at d2
          rw [hp] at d3
          rw [hq] at d4
          unfold uv at d1 d2 d3 d4
          have hS : sched l (n + 1) = sched l n ++ [p + q + sg0 x + sg1 y] := by
            rw [← hx, ← hy, ← hp, ← hq, sched, nextW]
            simp only [show 16 + n - 16 = n from by omega, show 16 + n - 7 = n + 9 from by omega, show 16 + n - 15 = n + 1 from by omega, show 16 + n - 2 = n + 14 from by omega]
          have HS := Lib.hid hS
          have HX := Lib.hid (And.intro hD hbr)
          have e1 : IntKind.i64.wrap (16 + (n : Int) - 15) = ((n + 1 : Nat) : Int) := by rw [Go.IntWalk.i64_in] <;> omega
          have e2 : IntKind.i64.wrap (16 + (n : Int) - 2) = ((n + 14 : Nat) : Int) := by rw [Go.IntWalk.i64_in] <;> omega
          have e3 : IntKind.i64.wrap (16 + (n : Int) - 16) = (n : Int) := by rw [Go.IntWalk.i64_in] <;> omega
          have e4 : IntKind.i64.wrap (16 + (n : Int) - 7) = ((n + 9 : Nat) : Int) := by rw [Go.IntWalk.i64_in] <;> omega
          have e5 : (16 + (n : Int)).toNat = 16 + n := by omega
          have e6 : ((n : Int) + 9).toNat = n + 9 := by omega
          obtain ⟨s, hs⟩ : ∃ s, p + q = s := ⟨_, rfl⟩
          have a1 := u_add' p q
          have a1' := u_add p q
          rw [hs] at a1 a1'
          have i1 : (0 : Int) ≤ (n : Int) := by omega
          have i2 : (n : Int) < 64 := by omega
          have i3 : (0 : Int) ≤ (n : Int) + 9 := by omega
          have i4 : (n : Int) + 9 < 64 := by omega
          have i5 : (0 : Int) ≤ 16 + (n : Int) := by omega
          have i6 : 16 + (n : Int) < 64 := by omega
          have c0 : wr.cell? ⟨w3.heap.size, 16 + n, none⟩ = some (uv 0) := cell_of_heap hD (wArr_zero (by omega) (by omega))
          have z0 : wr.frozen? ⟨w3.heap.size, 16 + n, none⟩ = false := frozen_of_heap hD
          unfold uv at c0
          clear hS hD hL hx hy hp hq
          go_wp2
          go_quiet (fail)
          go_wp2
          go_region_held3 (fun w' => w'.cell? ⟨w3.heap.size, n, none⟩ = some (.int .u32 (p.toNat : Int)) ∧ w'.cell? ⟨w3.heap.size, n + 9, none⟩ = some (.int .u32 (q.toNat : Int))) (first | go_keep | exact ⟨cell_off d3 (by omega), cell_off d4 (by omega)⟩) (fail)
          go_wp2
          have hD5 := heap_set_cells (i := 16 + n) (uv s) (show (wr.drewN (nq + 1)).heap[w3.heap.size]? = _ from HX.out.1)
          have hp5 := wArr_put (L := sched l n) s (by rw [sched_len]; omega)
          rw [sched_len] at hp5
          rw [hp5] at hD5
          have hb5 := below_set (i := 16 + n) (show Below w3.heap.size w3 (wr.drewN (nq + 1)) from below_drewN HX.out.2 _) (Nat.le_refl _) (uv s)
          unfold uv at hD5 hb5
          clear d1 d2 d3 d4 c0 z0 a1 a1' e1 e2 e3 e4 e6 hp5
          generalize (wr.drewN (nq + 1)).setCell _ _ = w5 at *
          have d5 := cell_of_heap hD5 (i := 16 + n) (v := uv s) (by rw [wArr_get (by simp [sched_len])]; simp [sched_len])
          have z5 : w5.frozen? ⟨w3.heap.size, 16 + n, none⟩ = false := frozen_of_heap hD5
          unfold uv at d5
          obtain ⟨x7, x18, x3, xa, xb, s2, h7, h18, b1, b2, b3, b4, b5, HR⟩ := mix x s 7 18 3 (by decide) 8 (by decide)
          have k7 := fun w => rot_to (m := 7) h7 (by decide) (by decide) rfl w
          have k18 := fun w => rot_to (m := 18) h18 (by decide) (by decide) rfl w
          clear h7 h18
          go_still_tail 13, (by kernel_rfl)
          still_call (k7 _)
          repeat still_step
          still_call (k18 _)
          repeat still_step
          refine wpStill_nil ?_
          change wpList _ _ _ _ _ w5.drew
          go_wp2
          have hD6 := heap_set_cells (i := 16 + n) (uv s2) hD5
          have hp6 := wArr_put2 (L := sched l n) s s2 (by rw [sched_len]; omega)
          rw [sched_len] at hp6
          rw [hp6] at hD6
          have hb6 := below_set (i := 16 + n) hb5 (Nat.le_refl _) (uv s2)
          have HY := Lib.hid (And.intro hD6 hb6)
          unfold uv at HY
          have hD6 : ((w5.setCell ⟨w3.heap.size, 16 + n, none⟩ (.int .u32 (s2.toNat : Int))).drew).heap[w3.heap.size]? = _ := HY.out.1
          have hb6 : Below w3.heap.size w3 (w5.setCell ⟨w3.heap.size, 16 + n, none⟩ (.int .u32 (s2.toNat : Int))).drew := below_drewN HY.out.2 1
          clear HY hp6 d5 z5 k7 k18 b1 b2 b3 b4 b5 hb5 hD5
          generalize (w5.setCell _ _).drew = w6 at *
          have d6 := cell_of_heap hD6 (i := 16 + n) (v := uv s2) (by rw [wArr_get (by simp [sched_len])]; simp [sched_len])
          have z6 : w6.frozen? ⟨w3.heap.size, 16 + n, none⟩ = false := frozen_of_heap hD6
          unfold uv at d6
          obtain ⟨y17, y19, y10, ya, yb, s3, h17, h19, b1, b2, b3, b4, b5, HR2⟩ := mix y s2 17 19 10 (by decide) 1024 (by decide)
          have k17 := fun w => rot_to (m := 17) h17 (by decide) (by decide) rfl w
          have k19 := fun w => rot_to (m := 19) h19 (by decide) (by decide) rfl w
          clear h17 h19
          go_still_tail 13, (by kernel_rfl)
          still_call (k17 _)
          repeat still_step
          still_call (k19 _)
          repeat still_step
          refine wpStill_nil ?_
          change wpList _ _ _ _ _ w6.drew
          go_wp2
          have hD7 := heap_set_cells (i := 16 + n) (uv s3) hD6
          have hp7 := wArr_put2 (L := sched l n) s2 s3 (by rw [sched_len]; omega)
          rw [sched_len] at hp7
          rw [hp7] at hD7
          have hS3 : sched l n ++ [s3] = sched l (n + 1) := by rw [HS.out, HR2.out, HR.out, ← hs]; rfl
          rw [hS3] at hD7
          have HY := Lib.hid (And.intro hD7 (below_set (i := 16 + n) hb6 (Nat.le_refl _) (uv s3)))
          unfold uv at HY
          clear hD7 hS3 hp7 d6 z6 hb6 hD6
          go_roundw
          case rel => exact ⟨n + 1, by omega, by go_num, HY.out.1, below_drewN HY.out.2 1⟩
          case measure => simp [intOf]; omega
        · obtain rfl : n = 48 := by omega
          rw [show 16 + ((48 : Nat) : Int) = 64 from rfl]
          have H0 := Lib.hid (And.intro hD hbr)
          clear hD hbr hlt hn
          have cT := table_any
          go_wp2_with fail
          (go_at_call 89; refine (cT _).mono ?_; rintro _ w8 ⟨rfl, hb8⟩)
          have hb38 := bthen H0.out.2 hb8
          have hA8 := below_keep hb38 HB.out.2.1
          obtain ⟨q0, q1, q2, q3, q4, q5, q6, q7⟩ := Ce7 hA8
          have hg8 : w.heap.size < w8.heap.size := by have := hb38.size; omega
          have HD8 := Lib.hid (And.intro (below_keep hb8 H0.out.1) (And.intro hA8 hb38))
          clear hA8 hb38 hb8
          obtain ⟨w9, hw9, hb9, hz9, hxK⟩ := al1 w8 tableC 119
          have hg9 : w8.heap.size < w9.heap.size := by omega
          have q0' := (hb9.cell (p := ⟨w.heap.size, 0, none⟩) hg8).trans q0
          have q1' := (hb9.cell (p := ⟨w.heap.size, 1, none⟩) hg8).trans q1
          have q2' := (hb9.cell (p := ⟨w.heap.size, 2, none⟩) hg8).trans q2
          have q3' := (hb9.cell (p := ⟨w.heap.size, 3, none⟩) hg8).trans q3
          have q4' := (hb9.cell (p := ⟨w.heap.size, 4, none⟩) hg8).trans q4
          have q5' := (hb9.cell (p := ⟨w.heap.size, 5, none⟩) hg8).trans q5
          have q6' := (hb9.cell (p := ⟨w.heap.size, 6, none⟩) hg8).trans q6
          have q7' := (hb9.cell (p := ⟨w.heap.size, 7, none⟩) hg8).trans q7
          have hw : w.heap.size < w9.heap.size := by omega
          have HD9 := Lib.hid (And.intro (below_keep hb9 HD8.out.1) (And.intro (below_keep hb9 HD8.out.2.1) (And.intro hxK (bthen HD8.out.2.2 hb9))))
          clear hz9 hb9 hxK HD8
          go_wp2_with (refine wpList_store_row rfl _ _ _ rfl w8.heap.size tableC rfl rfl _ _ (World.alloc_heap_new w8 _) (by kernel_rfl) (by kernel_rfl) tableC_one ?_; rw [World.setRow_alloc_new, hw9])
          clear q0 q1 q2 q3 q4 q5 q6 q7 q0' q1' q2' q3' q4' q5' q6' q7'
          go_loopw [79] (fun i wr => ∃ t : Nat, t ≤ 64 ∧ i = .int .i64 t ∧ ∃ a1 b1 c1 d1 e1 f1 g1 h1 : UInt32, Hid (rounds [a, b, c, d, e, f, g, h] (sched l 48) t = [a1, b1, c1, d1, e1, f1, g1, h1]) ∧
            wr.heap[w9.heap.size]? = some (.cells #[.int .u32 (a1.toNat : Int), .int .u32 (b1.toNat : Int), .int .u32 (c1.toNat : Int), .int .u32 (d1.toNat : Int), .int .u32 (e1.toNat : Int), .int .u32 (f1.toNat : Int), .int .u32 (g1.toNat : Int), .int .u32 (h1.toNat : Int)] 83 (0, 0)) ∧ Below w9.heap.size w9 wr) (fun i _ => 64 - (intOf i).toNat)
          case atStart => exact ⟨0, by omega, rfl, a, b, c, d, e, f, g, h, rfl, World.alloc_heap_new _ _, below_alloc _ _⟩
          case round =>
            obtain ⟨t, ht, rfl, a1, b1, c1, d1, e1, f1, g1, h1, HR, hV, hbr⟩ := hrel
            by_cases hlt : t < 64
            · have i1 : (0 : Int) ≤ (t : Int) := by omega
              have i2 : (t : Int) < 64 := by omega
              obtain ⟨q0, q4⟩ : wr.cell? ⟨w9.heap.size, 0, none⟩ = _ ∧ wr.cell? ⟨w9.heap.size, 4, none⟩ = _ := ⟨(Ce7 hV).1, (Ce7 hV).2.2.2.2.1⟩
              have HV := Lib.hid (And.intro hV hbr)
              clear hV hbr
              go_wp2
              go_quiet (fail)
              have hV : (wr.drewN nq).heap[w9.heap.size]? = _ := HV.out.1
              have hbr : Below w9.heap.size w9 (wr.drewN nq) := below_drewN HV.out.2 nq
              clear q0 q4 HV
              generalize wr.drewN nq = wr at *
              obtain ⟨k, hk⟩ : ∃ k, shaK.getD t 0 = k := ⟨_, rfl⟩
              obtain ⟨x, hx⟩ : ∃ x, (sched l 48).getD t 0 = x := ⟨_, rfl⟩
              have qK := cell_of_heap (below_keep hbr HD9.out.2.2.1) (tableC_get hlt)
              have qW := cell_of_heap (below_keep hbr HD9.out.1) (wArr_get (i := t) (by rw [sched_len]; omega))
              rw [hk] at qK
              rw [hx] at qW
              unfold uv at qK qW
              obtain ⟨-, -, -, -, -, q5, q6, q7⟩ := Ce7 hV
              obtain ⟨r6, r11, r25, ra, rb, s1, ef, ne, neg, ch, s2, s3, s4, o6, o11, o25, p1, p2, ⟨p3, p3'⟩, p4, p5, p6, p7, ⟨p8, p8'⟩, ⟨p9, p9'⟩, ⟨p10, p10'⟩, HX⟩ := mixX e1 f1 g1 h1 k x
              have hsg : IntKind.u32.signed = false := rfl
              have k6 := fun w => rot_to (m := 6) o6 (by decide) (by decide) rfl w
              have k11 := fun w => rot_to (m := 11) o11 (by decide) (by decide) rfl w
              have k25 := fun w => rot_to (m := 25) o25 (by decide) (by decide) rfl w
              have HV := Lib.hid (And.intro hV hbr)
              have HK := Lib.hid (And.intro hk hx)
              clear o6 o11 o25 hk hx hV hbr
              go_wp2
              go_quiet (first | (go_at_call 88; with_reducible exact Calls.quiet_of_same (k6 _)) | (go_at_call 88; with_reducible exact Calls.quiet_of_same (k11 _)) | (go_at_call 88; with_reducible exact Calls.quiet_of_same (k25 _)))
              have hV : (wr.drewN nq).heap[w9.heap.size]? = _ := HV.out.1
              have hbr : Below w9.heap.size w9 (wr.drewN nq) := below_drewN HV.out.2 nq
              clear q5 q6 q7 HV qK qW p1 p2 p3 p3' p4 p5 p6 p7 p8 p8' p9 p9' p10 p10' k6 k11 k25
              generalize wr.drewN nq = wr at *
              obtain ⟨-, q1, q2, -⟩ := Ce7 hV
              obtain ⟨r2, r13, r22, ra, rb, ab, ac, m1, bc, m2, y, o2, o13, o22, p1, p2, p3, p4, p5, p6, p7, ⟨p8, p8'⟩, HY⟩ := mixY a1 b1 c1
              have k2 := fun w => rot_to (m := 2) o2 (by decide) (by decide) rfl w
              have k13 := fun w => rot_to (m := 13) o13 (by decide) (by decide) rfl w
              have k22 := fun w => rot_to (m := 22) o22 (by decide) (by decide) rfl w
              have HV := Lib.hid (And.intro hV hbr)
              clear o2 o13 o22 hV hbr
              go_wp2
              go_quiet (first | (go_at_call 88; with_reducible exact Calls.quiet_of_same (k2 _)) | (go_at_call 88; with_reducible exact Calls.quiet_of_same (k13 _)) | (go_at_call 88; with_reducible exact Calls.quiet_of_same (k22 _)))
              have hV : (wr.drewN nq).heap[w9.heap.size]? = _ := HV.out.1
              have hbr : Below w9.heap.size w9 (wr.drewN nq) := below_drewN HV.out.2 nq
              clear q1 q2 HV p1 p2 p3 p4 p5 p6 p7 p8 p8' k2 k13 k22
              generalize wr.drewN nq = wr at *
              obtain ⟨q0, q1, q2, q3, q4, q5, q6, q7⟩ := Ce7 hV
              obtain ⟨z0, z1, z2, z3, z4, z5, z6, z7⟩ := Fz7 hV
              obtain ⟨u1, ⟨p1, p1'⟩, HU⟩ := mixS s4 y
              obtain ⟨u2, ⟨p2, p2'⟩, HU2⟩ := mixS d1 s4
              have HV := Lib.hid (And.intro hV hbr)
              clear hV hbr
              go_wp2
              go_roundw
              case rel =>
                refine ⟨t + 1, by omega, by go_num, u1, a1, b1, c1, u2, e1, f1, g1, ?_, set8 HV.out.1 HV.out.2 (Nat.le_refl _)⟩
                show rnd _ _ _ = _
                rw [HR.out, HK.out.1, HK.out.2]
                show [_, _, _, _, _, _, _, _] = _
                rw [HU.out, HU2.out, HX.out, HY.out]
              case measure => simp [intOf]; omega
            · obtain rfl : t = 64 := by omega
              rw [show ((64 : Nat) : Int) = 64 from rfl]
              clear hlt ht
              have HV := Lib.hid (And.intro hV hbr)
              clear hV hbr
              go_wp2
              go_loopw [159] (fun i wr => ∃ j : Nat, j ≤ 8 ∧ i = .int .i64 j ∧ wr.heap[w9.heap.size]? = some (.cells ((addTo [a1, b1, c1, d1, e1, f1, g1, h1] [a, b, c, d, e, f, g, h] j).map uv).toArray 83 (0, 0)) ∧ Below w9.heap.size w9 wr) (fun i _ => 8 - (intOf i).toNat)
              case atStart => exact ⟨0, by omega, rfl, HV.out.1, HV.out.2⟩
              case round =>
                clear HV
                obtain ⟨j, hj, rfl, hV, hbr⟩ := hrel
                by_cases hlt : j < 8
                · obtain ⟨g1', g2', g3'⟩ := addTo_get (R := [a1, b1, c1, d1, e1, f1, g1, h1]) (v := [a, b, c, d, e, f, g, h]) rfl rfl hlt
                  have qV := words_get hV (i := j) (by omega)
                  have qA := words_get (L := [a, b, c, d, e, f, g, h]) (below_keep hbr HD9.out.2.1) (i := j) hlt
                  have zV : wr.frozen? ⟨w9.heap.size, j, none⟩ = false := frozen_of_heap hV
                  rw [g1'] at qV
                  obtain ⟨x, hx⟩ : ∃ x, [a1, b1, c1, d1, e1, f1, g1, h1].getD j 0 = x := ⟨_, rfl⟩
                  obtain ⟨y, hy⟩ : ∃ y, [a, b, c, d, e, f, g, h].getD j 0 = y := ⟨_, rfl⟩
                  rw [hx] at qV
                  rw [hy] at qA
                  unfold uv at qV qA
                  obtain ⟨s, ⟨p1, p1'⟩, HS⟩ := mixS x y
                  have hV2 := words_set (i := j) s hV
                  rw [HS.out, ← hx, ← hy, g2', hx, hy, ← HS.out] at hV2
                  have HV := Lib.hid (And.intro hV2 (below_set (i := j) hbr (Nat.le_refl _) (uv s)))
                  unfold uv at HV
                  have i1 : (0 : Int) ≤ (j : Int) := by omega
                  have i2 : (j : Int) < 8 := by omega
                  clear hV hbr g1' g2' g3' hx hy hV2
                  go_wp2
                  go_still_tail 8, (by kernel_rfl)
                  change wpList _ _ _ _ _ wr.drew
                  go_wp2
                  go_roundw
                  case rel => exact ⟨j + 1, by omega, by go_num, HV.out.1, below_drewN HV.out.2 1⟩
                  case measure => simp [intOf]; omega
                · obtain rfl : j = 8 := by omega
                  rw [show ((8 : Nat) : Int) = 8 from rfl]
                  have he : addTo [a1, b1, c1, d1, e1, f1, g1, h1] [a, b, c, d, e, f, g, h] 8 = turn [a, b, c, d, e, f, g, h] l := by
                    unfold turn; rw [HR.out]; rfl
                  rw [he] at hV
                  obtain ⟨r0, r1, r2, r3, r4, r5, r6, r7, hr⟩ := list8 hT
                  rw [hr] at hV
                  have Hr := Lib.hid hr
                  clear hr
                  obtain ⟨q0, q1, q2, q3, q4, q5, q6, q7⟩ := Ce7 hV
                  unfold uv at q0 q1 q2 q3 q4 q5 q6 q7
                  have hb9 : Below w.heap.size w w9 := HB.out.1.trans (HD9.out.2.2.2.mono (by have := HZ.out; omega))
                  have hbw : Below w.heap.size w wr := hb9.trans (hbr.mono hb9.size)
                  have hC : wr.heap[w.heap.size + 1 + 1]? = _ := below_keep hbr (below_keep HD9.out.2.2.2 HB.out.2.2.2)
                  obtain ⟨y0, y1, y2, y3, y4, y5, y6, y7⟩ := Ce7 hC
                  obtain ⟨z0, z1, z2, z3, z4, z5, z6, z7⟩ := Fz7 hC
                  have HW := fun u0 u1 u2 u3 u4 u5 u6 u7 => set8 (u0 := u0) (u1 := u1) (u2 := u2) (u3 := u3) (u4 := u4) (u5 := u5) (u6 := u6) (u7 := u7) hC hbw (by omega)
                  have HW := Lib.hid HW
                  clear hV hbr he hC hbw hb9
                  go_wp2
                  exact bodyPost_ret (results_cell_row (by rfl) _ _ (w.heap.size + 1 + 1) _ _ _ _ (by rfl) (HW.out ..).1 Try.underlying83 (by kernel_rfl) (by kernel_rfl)) rfl ⟨by rw [Hr.out]; rfl, (HW.out ..).2⟩

end Go.Proofs.Ytljobojdcnhecaa
