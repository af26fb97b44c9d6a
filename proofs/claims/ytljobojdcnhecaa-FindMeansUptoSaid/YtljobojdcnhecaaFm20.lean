/- Texts of this claim, one behind the other: IbT, IbV, IbW. -/
import Derived.Lib.SlBytesConst
import Derived.Test.YtljobojdcnhecaaFm15
import Derived.Test.YtljobojdcnhecaaFm14
import Derived.Test.YtljobojdcnhecaaFm17
import Derived.Test.YtljobojdcnhecaaFm18
import Derived.Test.YtljobojdcnhecaaFm19
set_option linter.unusedSimpArgs false
set_option linter.unusedVariables false
set_option maxRecDepth 100000
set_option maxHeartbeats 32000000
namespace Go.Proofs.Ytljobojdcnhecaa
/- Find: the law's num; the chapter's index. -/
open Go.RowKit Go.Maps Go.MapKept

theorem num_any (v : Value) (w : World) : Calls Try.prog 6 #[v] w fun e w' => e = .returned v ∧ w = w' := by
  go_enter Try.func6, Try.ntmps6
  go_wp2
  go_ret
  exact ⟨rfl, rfl⟩
def E3 : List (List UInt8) := [[97], [98], [97]]
def H3 : List (List UInt8) := [leaf [97], leaf [98], leaf [97]]
theorem k_bits : bitsN H3 (leaf [97]) 2 = [0, 2] := by unfold H3; rw [leafA, leafB]; decide +kernel
theorem k_digits : digV H3 [48, 50] = [0, 2] := by unfold H3; rw [leafA, leafB]; decide +kernel
theorem k_digits_ok : ([48, 50] : List UInt8).all (fun c => (hexD c).isSome) = true := by decide +kernel
theorem k_short : shortP H3 (leaf [97]) = 2 := by unfold H3; rw [leafA, leafB]; decide +kernel
theorem k_counts : countsN H3 2 = [2, 1, 0, 0] := by unfold H3; rw [leafA, leafB]; decide +kernel
theorem k_of1 : ofN E3 [98] = [1] := by decide +kernel
theorem k_of2 : ofN E3 [97] = [0, 2] := by decide +kernel
theorem row_ints {w : World} {g : Nat} {l : List Nat} (h : w.heap[g]? = some (.cells (l.map iv).toArray 3 (0, 0))) : RowAt w (some ⟨g, 0, none⟩) (l.map iv) := RowAt.of_row fun j u hu => cell_of_heap h (by rw [List.getElem?_toArray]; exact hu)
theorem row_bytes1 {w : World} {g : Nat} {l : List UInt8} {t : TypeId} {f : Nat × Nat} (h : w.heap[g]? = some (.cells (l.map bv).toArray t f)) : RowAt w (some ⟨g, 0, none⟩) (l.map bv) := RowAt.of_row fun j u hu => cell_of_heap h (by rw [List.getElem?_toArray]; exact hu)
theorem al1f (w : World) (c : Array Value) (e : TypeId) (f : Nat × Nat) : ∃ x, w.alloc (.cells c e f) = x ∧ Below w.heap.size w x ∧ x.heap.size = w.heap.size + 1 ∧ x.heap[w.heap.size]? = some (.cells c e f) := ⟨_, rfl, below_alloc w _, by simp, World.alloc_heap_new w _⟩
/-- the chapter's index is as the chapter says -/
theorem known_any (w : World) : Calls Try.prog 4 #[] w fun e w' => e = .returned (.bool true) ∧ Below w.heap.size w w' := by
  obtain ⟨w1, hw1, hb1, hz1, hx1⟩ := al1f w #[.int .u8 97] 5 (1, 2)
  obtain ⟨w2, hw2, hb2, hz2, hx2⟩ := al1f w1 #[.int .u8 98] 5 (1, 2)
  obtain ⟨w3, hw3, hb3, hz3, hx3⟩ := al1 w2 #[.slice (some ⟨w.heap.size, 0, none⟩) 1 1, .slice (some ⟨w1.heap.size, 0, none⟩) 1 1, .slice (some ⟨w.heap.size, 0, none⟩) 1 1] 30
  have hA3 := row_bytes1 (l := [97]) (below_keep hb3 (below_keep hb2 hx1))
  have hB3 := row_bytes1 (l := [98]) (below_keep hb3 hx2)
  have hL : EntsR (fun _ => True) w3 (some ⟨w2.heap.size, 0, none⟩) E3 := fun _ => ⟨_, 0, rfl, trivial, by omega, fun i d hd => by
    have hi : i = 0 ∨ i = 1 ∨ i = 2 := by have := (List.getElem?_eq_some_iff.1 hd).1; unfold E3 at this; simp at this; omega
    rcases hi with rfl | rfl | rfl
    · obtain rfl : [97] = d := by simpa [E3] using hd
      exact ⟨_, 1, ce0 hx3, hA3, Nat.le_refl _, (fun e => by cases e), fun x e _ => by cases e; exact ⟨trivial, by show w.heap.size < w3.heap.size; omega⟩⟩
    · obtain rfl : [98] = d := by simpa [E3] using hd
      exact ⟨_, 1, ce1 hx3, hB3, Nat.le_refl _, (fun e => by cases e), fun x e _ => by cases e; exact ⟨trivial, by show w1.heap.size < w3.heap.size; omega⟩⟩
    · obtain rfl : [97] = d := by simpa [E3] using hd
      exact ⟨_, 1, ce2 hx3, hA3, Nat.le_refl _, (fun e => by cases e), fun x e _ => by cases e; exact ⟨trivial, by show w.heap.size < w3.heap.size; omega⟩⟩⟩
  have cN := xnew_any (c := 3) hL (by decide)
  have hb03 : Below w.heap.size w w3 := hb1.trans ((hb2.trans (hb3.mono hb2.size)).mono hb1.size)
  have hw3s : w.heap.size < w3.heap.size := by omega
  have hw3t : w1.heap.size < w3.heap.size := by omega
  have HAB := Lib.hid (And.intro hA3 (And.intro hB3 hb03))
  have cU := fun v w => num_any v w
  have hE3l : E3.length = 3 := rfl
  rw [hE3l] at cN
  have kc := fun (w : World) (C : Array Value) (n c : Nat) => Lib.run_convert_bytes_const (P := Try.prog) w 30 5 C n c Try.underlying30 Try.underlying5
  clear hL hx1 hx2 hx3 hA3 hB3 hb1 hb2 hb3 hb03 hz1 hz2 hz3
  go_enter Try.func4, Try.ntmps4
  go_wp2_with fail
  ((with_reducible refine cN.mono ?_); rintro _ w4 ⟨hpost, hb4⟩)
  have h0 : anyLong E3 = false := by decide +kernel
  rw [h0, if_neg (by decide)] at hpost
  obtain ⟨bx, F, G, rfl, hX, -⟩ := hpost
  have cL := len_any hX
  rw [hE3l] at cL
  have HX := Lib.hid (And.intro hX hb4)
  clear hX hb4 cN h0
  go_wp2_with (first | (refine (cU _ _).mono ?_; rintro _ _ ⟨rfl, rfl⟩) | (refine cL.mono ?_; rintro _ w5 ⟨rfl, q, rfl⟩))
  have cLeaf := rleaf_any (w := w4.drewN q) (b := [97]) (a := some ⟨w.heap.size, 0, none⟩) (c := 1) ((HAB.out.1.below HX.out.2).below (below_drewN (Below.refl _ _) q)) (fun e => by cases e) (by decide)
  rw [show ([97] : List UInt8).length = 1 from rfl] at cLeaf
  ((with_reducible refine cLeaf.mono ?_); rintro _ w6 ⟨rfl, hb6⟩)
  have HB6 : Hid (Below w4.heap.size w4 w6) := (below_drewN (Below.refl _ _) q).trans hb6
  clear cLeaf cL hb6
  have cBits := bits_any (w := w6) (h := leaf [97]) (b := 2) (HX.out.1.below HB6.out) (by decide) (leaf_len _) (by decide)
  rw [show E3.map leaf = H3 from rfl, k_bits, show ((2 : Nat) : Int) = 2 from rfl] at cBits
  go_wp2_with fail
  ((with_reducible refine cBits.mono ?_); rintro _ w7 ⟨v7, rfl, hr7, hb7⟩)
  obtain ⟨a7, c7, rfl, _, _, hr7, -⟩ := row_slice2 hr7
  have HB7 := Lib.hid (HB6.out.trans (hb7.mono HB6.out.size))
  have HR7 := Lib.hid hr7
  clear cBits hb7 hr7
  have cDig := digits_any (w := w7) (s := [48, 50]) (HX.out.1.below HB7.out) (by decide) (by decide)
  unfold DigPost at cDig
  simp only [k_digits_ok, if_true] at cDig
  rw [show E3.map leaf = H3 from rfl, k_digits, show ([48, 50] : List UInt8).toArray = #[48, 50] from rfl] at cDig
  go_wp2_with fail
  ((with_reducible refine cDig.mono ?_); rintro _ w8 ⟨⟨v8, rfl, hr8⟩, hb8⟩)
  obtain ⟨a8, c8, rfl, _, _, hr8, -⟩ := row_slice2 hr8
  have HB8 := Lib.hid (HB7.out.trans (hb8.mono HB7.out.size))
  have HR8 := Lib.hid (And.intro (HR7.out.below hb8) hr8)
  clear cDig hb8 hr8
  have hE3s : ∀ l ∈ E3, l.length ≤ 4096 := by decide
  have cSh := short_any (w := w8) (HX.out.1.below HB8.out) (by decide) hE3s 0 (by decide)
  have hs3 : shortR E3 0 = (2, 0) := by
    unfold shortR
    rw [if_pos (by decide)]
    show (shortP H3 (leaf [97]), (0 : Int)) = _
    rw [k_short]
  rw [hs3] at cSh
  go_wp2_with fail
  ((with_reducible refine cSh.mono ?_); rintro _ w9 ⟨rfl, hb9⟩)
  have HB9 := Lib.hid (HB8.out.trans (hb9.mono HB8.out.size))
  have HR9 := Lib.hid (And.intro (HR8.out.1.below hb9) (HR8.out.2.below hb9))
  clear cSh hb9
  have cCo := counts_any (w := w9) (b := 2) (HX.out.1.below HB9.out) (by decide) (by decide)
  rw [show E3.map leaf = H3 from rfl, k_counts, show ((2 : Nat) : Int) = 2 from rfl] at cCo
  go_wp2_with fail
  ((with_reducible refine cCo.mono ?_); rintro _ wA ⟨vA, rfl, hrA, hbA⟩)
  obtain ⟨aA, cA, rfl, _, _, hrA, -⟩ := row_slice2 hrA
  have HBA := Lib.hid (HB9.out.trans (hbA.mono HB9.out.size))
  have HRA := Lib.hid (And.intro (HR9.out.1.below hbA) (And.intro (HR9.out.2.below hbA) hrA))
  clear cCo hbA hrA
  have hw4s := HX.out.2.size
  have hA4s := HBA.out.size
  have cFi := xfirst_any (w := wA) (ua := some ⟨w1.heap.size, 0, none⟩) (uc := 1) (d := [98]) (HX.out.1.below HBA.out) (by decide) ((HAB.out.2.1.below HX.out.2).below HBA.out) (by decide) (fun x e => by cases e; intro _; show w1.heap.size < wA.heap.size; omega) (by decide)
  rw [k_of1, show ([98] : List UInt8).length = 1 from rfl] at cFi
  go_wp2_with fail
  ((with_reducible refine cFi.mono ?_); rintro _ wB ⟨rfl, hbB⟩)
  have HBB := Lib.hid (HBA.out.trans (hbB.mono HBA.out.size))
  have HRB := Lib.hid (And.intro (HRA.out.1.below hbB) (And.intro (HRA.out.2.1.below hbB) (HRA.out.2.2.below hbB)))
  have hBs := hbB.size
  clear cFi hbB
  unfold firstV
  -- the first list
  obtain ⟨wC, hwC, hbC, hzC, hxC⟩ := al1 wB #[.int .i64 0, .int .i64 2] 3
  have cS1 := same_any (w := wC) (c := c7) (d := 2) (l := [0, 2]) (m := [0, 2]) (HRB.out.1.below hbC) (row_ints hxC) (by decide)
  rw [show ([0, 2] : List Nat).length = 2 from rfl, show (([0, 2] : List Nat) == [0, 2]) = true from rfl] at cS1
  have HBC := Lib.hid (HBB.out.trans (hbC.mono HBB.out.size))
  have HRC := Lib.hid (And.intro (HRB.out.2.1.below hbC) (HRB.out.2.2.below hbC))
  clear hxC hbC
  go_wp2_with (first | (refine (cU _ _).mono ?_; rintro _ _ ⟨rfl, rfl⟩))
  ((with_reducible refine cS1.mono ?_); rintro _ wD ⟨rfl, qD, hwD⟩)
  have hbD : Below wC.heap.size wC wD := by rw [hwD]; exact below_drewN (Below.refl _ _) _
  have HBD := Lib.hid (HBC.out.trans (hbD.mono HBC.out.size))
  have HRD := Lib.hid (And.intro (HRC.out.1.below hbD) (HRC.out.2.below hbD))
  clear cS1 hwD hbD
  obtain ⟨wE, hwE, hbE, hzE, hxE⟩ := al1 wD #[.int .i64 0, .int .i64 2] 3
  have cS2 := same_any (w := wE) (c := c8) (d := 2) (l := [0, 2]) (m := [0, 2]) (HRD.out.1.below hbE) (row_ints hxE) (by decide)
  rw [show ([0, 2] : List Nat).length = 2 from rfl, show (([0, 2] : List Nat) == [0, 2]) = true from rfl] at cS2
  have HBE := Lib.hid (HBD.out.trans (hbE.mono HBD.out.size))
  have HRE := Lib.hid (HRD.out.2.below hbE)
  clear hxE hbE
  go_wp2_with (first | (refine (cU _ _).mono ?_; rintro _ _ ⟨rfl, rfl⟩))
  ((with_reducible refine cS2.mono ?_); rintro _ wF ⟨rfl, qF, hwF⟩)
  have hbF : Below wE.heap.size wE wF := by rw [hwF]; exact below_drewN (Below.refl _ _) _
  have HBF := Lib.hid (HBE.out.trans (hbF.mono HBE.out.size))
  have HRF := Lib.hid (HRE.out.below hbF)
  clear cS2 hwF hbF
  obtain ⟨wG, hwG, hbG, hzG, hxG⟩ := al1 wF #[.int .i64 2, .int .i64 1, .int .i64 0, .int .i64 0] 3
  have cS3 := same_any (w := wG) (c := cA) (d := 4) (l := [2, 1, 0, 0]) (m := [2, 1, 0, 0]) (HRF.out.below hbG) (row_ints hxG) (by decide)
  rw [show ([2, 1, 0, 0] : List Nat).length = 4 from rfl, show (([2, 1, 0, 0] : List Nat) == [2, 1, 0, 0]) = true from rfl] at cS3
  have HBG := Lib.hid (HBF.out.trans (hbG.mono HBF.out.size))
  clear hxG hbG
  go_wp2_with (first | (refine (cU _ _).mono ?_; rintro _ _ ⟨rfl, rfl⟩))
  ((with_reducible refine cS3.mono ?_); rintro _ wH ⟨rfl, qH, hwH⟩)
  have hbH : Below wG.heap.size wG wH := by rw [hwH]; exact below_drewN (Below.refl _ _) _
  have HBH := Lib.hid (HBG.out.trans (hbH.mono HBG.out.size))
  have hH4s := HBH.out.size
  clear cS3 hwH hbH
  have cOf := of_any (w := wH) (ua := some ⟨w.heap.size, 0, none⟩) (uc := 1) (d := [97]) (HX.out.1.below HBH.out) (by decide) ((HAB.out.1.below HX.out.2).below HBH.out) (by decide) (fun x e => by cases e; intro _; show w.heap.size < wH.heap.size; omega) (by decide)
  rw [k_of2, show ([97] : List UInt8).length = 1 from rfl] at cOf
  go_wp2_with (first | (refine (cU _ _).mono ?_; rintro _ _ ⟨rfl, rfl⟩))
  ((with_reducible refine cOf.mono ?_); rintro _ wI ⟨vI, rfl, hrI, hbI⟩)
  obtain ⟨aI, cI, rfl, _, _, hrI, -⟩ := row_slice2 hrI
  have HBI := Lib.hid (HBH.out.trans (hbI.mono HBH.out.size))
  clear cOf hbI
  obtain ⟨wJ, hwJ, hbJ, hzJ, hxJ⟩ := al1 wI #[.int .i64 0, .int .i64 2] 3
  have cS4 := same_any (w := wJ) (c := cI) (d := 2) (l := [0, 2]) (m := [0, 2]) (hrI.below hbJ) (row_ints hxJ) (by decide)
  rw [show ([0, 2] : List Nat).length = 2 from rfl, show (([0, 2] : List Nat) == [0, 2]) = true from rfl] at cS4
  have HBJ := Lib.hid (HBI.out.trans (hbJ.mono HBI.out.size))
  clear hxJ hbJ hrI
  go_wp2_with fail
  ((with_reducible refine cS4.mono ?_); rintro _ wK ⟨rfl, qK, hwK⟩)
  have hbK : Below wJ.heap.size wJ wK := by rw [hwK]; exact below_drewN (Below.refl _ _) _
  have HBK := Lib.hid ((HAB.out.2.2.trans (HX.out.2.mono HAB.out.2.2.size)).trans ((HBJ.out.trans (hbK.mono HBJ.out.size)).mono (HAB.out.2.2.trans (HX.out.2.mono HAB.out.2.2.size)).size))
  clear cS4 hwK hbK
  go_wp2
  go_ret
  exact ⟨rfl, HBK.out⟩

/- Find: what FindMeans says: the plain law. -/
open Go.RowKit Go.Maps

theorem bitsN_mem {H : List (List UInt8)} {h : List UInt8} {b i : Nat} : i ∈ bitsN H h b ↔ ∃ x, H[i]? = some x ∧ b ≤ shareN x h := by
  unfold bitsN
  simp only [List.mem_map, List.mem_filter, decide_eq_true_iff]
  constructor
  · rintro ⟨⟨x, j⟩, ⟨h1, h2⟩, h3⟩
    simp only at h2 h3
    subst h3
    exact ⟨x, List.mem_zipIdx_iff_getElem?.1 h1, h2⟩
  · rintro ⟨x, h1, h2⟩
    exact ⟨(x, i), ⟨List.mem_zipIdx_iff_getElem?.2 h1, h2⟩, rfl⟩
theorem bitsN_congr {H : List (List UInt8)} {h h' : List UInt8} {b b' : Nat} (e : ∀ x ∈ H, (b ≤ shareN x h ↔ b' ≤ shareN x h')) : bitsN H h b = bitsN H h' b' := by
  unfold bitsN
  refine congrArg _ (List.filter_congr (fun p hp => ?_))
  rw [decide_eq_decide]
  exact e p.1 (List.mem_of_getElem? (List.mem_zipIdx_iff_getElem?.1 hp))
theorem share_lt {x y : List UInt8} (hx : x.length = 32) (hy : y.length = 32) (hne : x ≠ y) : shareN x y < 256 := (cmp_bit hx hy hne).1
theorem most_le {H : List (List UInt8)} (hl : Len32 H) {h : List UInt8} (hh : h.length = 32) {m : Nat} (hm : IsMost H h m) : m ≤ 256 := by
  rcases hm.2 with h0 | ⟨x, h1, h2, h3⟩
  · omega
  · have := share_lt (hl x h1) hh h2
    omega
/-- by as many bits as Short says an entry is alone with its likes -/
theorem by_whole {H : List (List UInt8)} (hl : Len32 H) {h : List UInt8} (hh : h.length = 32) : bitsN H h (shortP H h) = bitsN H h 256 := by
  have hm := short_is hl hh
  refine bitsN_congr (fun x hx => ?_)
  by_cases e : x = h
  · subst e
    rw [shareN_self]
    have := most_le hl hh hm
    omega
  · have h1 := hm.1 x hx e
    have h2 := share_lt (hl x hx) hh e
    omega
/-- and by one bit less not -/
theorem less_more {H : List (List UInt8)} (hl : Len32 H) {h : List UInt8} (hh : h.length = 32) (hpos : 0 < shortP H h) : (bitsN H h 256).length < (bitsN H h (shortP H h - 1)).length := by
  have hm := short_is hl hh
  have hle := most_le hl hh hm
  rcases hm.2 with h0 | ⟨x, h1, h2, h3⟩
  · omega
  · obtain ⟨i, hi⟩ := List.mem_iff_getElem?.1 h1
    have hsub : (bitsN H h 256).Sublist (bitsN H h (shortP H h - 1)) := by
      unfold bitsN
      refine List.Sublist.map _ ?_
      rw [show (H.zipIdx.filter fun p => decide (256 ≤ shareN p.1 h)) = (H.zipIdx.filter fun p => decide (shortP H h - 1 ≤ shareN p.1 h)).filter fun p => decide (256 ≤ shareN p.1 h) from ?_]
      · exact List.filter_sublist
      · rw [List.filter_filter]
        refine List.filter_congr (fun p _ => ?_)
        rw [Bool.eq_iff_iff, Bool.and_eq_true, decide_eq_true_iff, decide_eq_true_iff]
        constructor
        · intro h; exact ⟨h, by omega⟩
        · intro h; exact h.1
    have hin : i ∈ bitsN H h (shortP H h - 1) := bitsN_mem.2 ⟨x, hi, by omega⟩
    have hout : i ∉ bitsN H h 256 := fun hc => by
      obtain ⟨y, h4, h5⟩ := bitsN_mem.1 hc
      rw [hi] at h4
      cases h4
      have := share_lt (hl x h1) hh h2
      omega
    rcases Nat.lt_or_ge (bitsN H h 256).length (bitsN H h (shortP H h - 1)).length with h4 | h4
    · exact h4
    · exact absurd (hsub.eq_of_length_le h4 ▸ hin) hout
theorem ofN_mem {E : List (List UInt8)} {d : List UInt8} {i : Nat} : i ∈ ofN E d ↔ E[i]? = some d := by
  unfold ofN
  simp only [List.mem_map, List.mem_filter, decide_eq_true_iff]
  constructor
  · rintro ⟨⟨x, j⟩, ⟨h1, h2⟩, h3⟩
    simp only at h2 h3
    subst h2 h3
    exact List.mem_zipIdx_iff_getElem?.1 h1
  · intro hi
    exact ⟨(d, i), ⟨List.mem_zipIdx_iff_getElem?.2 hi, rfl⟩, rfl⟩
theorem ofN_sorted (E : List (List UInt8)) (d : List UInt8) : (ofN E d).Pairwise (· < ·) := by
  unfold ofN
  exact List.pairwise_map.2 ((zip_rising E).filter _)
theorem first_le_own {E : List (List UInt8)} {d : List UInt8} {i : Nat} (h : E[i]? = some d) : ∃ j l, ofN E d = j :: l ∧ j ≤ i := by
  have hm := ofN_mem.2 h
  have hs := ofN_sorted E d
  cases he : ofN E d with
  | nil => rw [he] at hm; cases hm
  | cons j l =>
    rw [he] at hm hs
    refine ⟨j, l, rfl, ?_⟩
    rcases List.mem_cons.1 hm with rfl | hm
    · exact Nat.le_refl _
    · exact Nat.le_of_lt ((List.pairwise_cons.1 hs).1 i hm)
theorem hexC_digit : ∀ n : Fin 16, hexD (hexC n.val) = some n.val := by decide +kernel
theorem text_digits (h : List UInt8) (k : Nat) : ((textN h).take k).all (fun c => (hexD c).isSome) = true := by
  rw [List.all_eq_true]
  intro c hc
  obtain ⟨i, _, rfl⟩ := List.mem_map.1 (List.mem_of_mem_take hc)
  have := hexC_digit ⟨nib h i, nib_lt h i⟩
  simp only at this
  rw [this]; rfl
theorem textN_len (h : List UInt8) : (textN h).length = 64 := by simp [textN]
def digV' (H : List (List UInt8)) (s : List UInt8) : List Nat := bitsN H (hexL s) (4 * s.length)
/-- the digits of a hash tell what its bits tell -/
theorem digits_bits {H : List (List UInt8)} {h : List UInt8} {k : Nat} (hk : k ≤ 64) : digV' H ((textN h).take k) = bitsN H h (4 * k) := by
  have hl : ((textN h).take k).length = k := by rw [List.length_take, textN_len]; omega
  unfold digV'
  rw [hl]
  have ht := (text_is (x := h) (s := (textN h).take k) (by rw [hl]; exact hk) (fun c hc => List.all_eq_true.1 (text_digits h k) c hc)).1 (by rw [hl])
  rw [hl] at ht
  refine bitsN_congr (fun x _ => ?_)
  have hb : 4 * k ≤ 256 := by omega
  rw [shareN_ge hb, shareN_ge hb]
  rw [shareN_ge hb] at ht
  exact ⟨fun h1 j hj => (h1 j hj).trans (ht j hj).symm, fun h1 j hj => (h1 j hj).trans (ht j hj)⟩
theorem sum_counts (H : List (List UInt8)) {b : Nat} (hb : b ≤ 16) : (countsN H b).sum = H.length := by
  unfold countsN
  have step : ∀ (n : Nat) (H : List (List UInt8)), (H.countP fun h => decide (topN h b < n)) + (H.countP fun h => decide (topN h b = n)) = H.countP fun h => decide (topN h b < n + 1) := by
    intro n H
    induction H with
    | nil => rfl
    | cons a H ih =>
      rw [List.countP_cons, List.countP_cons, List.countP_cons]
      by_cases h1 : topN a b < n
      · simp [h1, show topN a b < n + 1 by omega, show ¬ topN a b = n by omega]; omega
      · by_cases h2 : topN a b = n
        · simp [h2]; omega
        · simp [h1, h2, show ¬ topN a b < n + 1 by omega]; omega
  have key : ∀ (n : Nat) (H : List (List UInt8)), ((List.range n).map fun j => H.countP fun h => decide (topN h b = j)).sum = H.countP fun h => decide (topN h b < n) := by
    intro n H
    induction n with
    | zero => simp
    | succ n ih =>
      rw [List.range_succ, List.map_append, List.sum_append, ih, ← step]
      simp
  rw [key, List.countP_eq_length]
  intro h _
  rw [decide_eq_true_iff]
  exact topN_lt h hb

/- Find: the law's means. (printed by gen/meansx.py) -/

theorem run_take_text {l : List UInt8} {k : Nat} (hk : k ≤ l.length) (W : World) : (Instr.slice 9 (.string ⟨l.toArray⟩) none (some (.int .i64 (k : Int))) none).run Try.prog W = .ok (.string ⟨(l.take k).toArray⟩) W := by
  have hsz : (⟨l.toArray⟩ : ByteArray).size = l.length := by simp [ByteArray.size]
  rw [run_slice_string_h (ht := Try.underlying9) (h0 := by omega) (h2 := by rw [hsz]; omega)]
  congr 2
  apply ByteArray.ext
  apply Array.toList_inj.1
  simp
theorem bitsN_len (H : List (List UInt8)) (h : List UInt8) (b : Nat) : (bitsN H h b).length ≤ H.length := by
  unfold bitsN
  rw [List.length_map]
  exact Nat.le_trans (List.length_filter_le _ _) (by rw [List.length_zipIdx]; exact Nat.le_refl _)
theorem drew_b {w w' : World} (h : ∃ q, w' = w.drewN q) : Below w.heap.size w w' := by
  obtain ⟨q, rfl⟩ := h
  exact below_drewN (Below.refl _ _) q
theorem means_any {F G R : Nat → Prop} {w : World} {bx : Nat} {E : List (List UInt8)} {la : Option Addr} {lc i b : Nat} (hX : XAt F G w bx E) (hL : EntsR R w la E) (hE : E.length ≤ 4194304) (hs : ∀ l ∈ E, l.length ≤ 4096) (hi : i < E.length) (hb : b ≤ 256) :
    Calls Try.prog 8 #[.pointer (some ⟨bx, 0, none⟩), .slice la E.length lc, .int .i64 (i : Int), .int .i64 (b : Int)] w fun e w' => e = .returned (.bool true) ∧ Below w.heap.size w w' := by
  obtain ⟨ab, ao, rfl, _, habs, hcells⟩ := hL (fun e => by rw [e] at hi; simp at hi)
  obtain ⟨d, hd⟩ : ∃ d, E[i]? = some d := ⟨_, List.getElem?_eq_getElem hi⟩
  obtain ⟨ua, uc, u0, u1, u2, u3, u4⟩ := hcells i d hd
  have hds := hs d (List.mem_of_getElem? hd)
  obtain ⟨H, hH⟩ : ∃ H, E.map leaf = H := ⟨_, rfl⟩
  obtain ⟨h, hh⟩ : ∃ h, leaf d = h := ⟨_, rfl⟩
  have hH32 : Len32 H := by rw [← hH]; exact leafs_len E
  have hHl : H.length = E.length := by rw [← hH, List.length_map]
  have h32 : h.length = 32 := by rw [← hh]; exact leaf_len d
  have hHi : H[i]? = some h := by rw [← hH, List.getElem?_map, hd, ← hh]; rfl
  -- the plain law
  have p1 : withinN (bitsN H h 256) (bitsN H h b) = true := List.all_eq_true.2 (fun x hx => by
    obtain ⟨y, h1, h2⟩ := bitsN_mem.1 hx
    simpa using bitsN_mem.2 ⟨y, h1, by omega⟩)
  have p2 : withinN [i] (bitsN H h 256) = true := List.all_eq_true.2 (fun x hx => by
    obtain rfl : x = i := by simpa using hx
    simpa using bitsN_mem.2 ⟨h, hHi, by rw [shareN_self]; exact Nat.le_refl _⟩)
  have p3 := by_whole hH32 h32
  have p4 : withinN (ofN E d) (bitsN H h 256) = true := List.all_eq_true.2 (fun x hx => by
    have h1 := ofN_mem.1 hx
    simpa using bitsN_mem.2 ⟨h, by rw [← hH, List.getElem?_map, h1, ← hh]; rfl, by rw [shareN_self]; exact Nat.le_refl _⟩)
  obtain ⟨j, ol, p5, p6⟩ := first_le_own hd
  have hsp := most_le hH32 h32 (short_is hH32 h32)
  have p7 := less_more hH32 h32
  obtain ⟨sp, hspe⟩ : ∃ sp, shortP H h = sp := ⟨_, rfl⟩
  rw [hspe] at p3 hsp p7
  obtain ⟨k4, hk4⟩ : ∃ k4, b / 4 = k4 := ⟨_, rfl⟩
  have hk64 : k4 ≤ 64 := by omega
  have p8 : digV H ((textN h).take k4) = bitsN H h (k4 * 4) := by rw [Nat.mul_comm]; exact digits_bits hk64
  have p9 := text_digits h k4
  have hsr : shortR E (i : Int) = (sp, 0) := by
    unfold shortR
    rw [if_pos (by omega), hH]
    show (shortP H (leaf (E.getD i [])), (0 : Int)) = _
    rw [show E.getD i [] = d by simp [List.getD, hd], hh, hspe]
  have nb : ∀ t, (bitsN H h t).length ≤ 4194304 := fun t => Nat.le_trans (bitsN_len _ _ _) (by rw [hHl]; exact hE)
  have nof : (ofN E d).length ≤ 4194304 := Nat.le_trans (ofN_len E d) hE
  have HZ : Hid ((h.map bv).toArray.size = 32) := by show _ = _; rw [List.size_toArray, List.length_map, h32]
  have HX := Lib.hid (And.intro hX (And.intro hH (And.intro h32 (And.intro u1 (And.intro u2 (And.intro u3 u4))))))
  have PL := Lib.hid (And.intro p1 (And.intro p2 (And.intro p3 (And.intro p4 (And.intro p5 (And.intro p6 (And.intro p7 (And.intro p8 p9))))))))
  have NB := Lib.hid (And.intro nb nof)
  have HSR := Lib.hid hsr
  have HS := Lib.hid hs
  have cU := fun v w => num_any v w
  have i1 : (0 : Int) ≤ (i : Int) := by omega
  have i2 : (i : Int) < (E.length : Int) := by omega
  have cLeaf := rleaf_any (w := w) (b := d) (a := ua) (c := uc) u1 u3 (by omega)
  rw [hh] at cLeaf
  clear hX hL hcells hd hs hH hh hH32 hHl h32 hHi p1 p2 p3 p4 p5 p6 p7 p8 p9 u1 u2 u3 u4 hsr nb nof hspe
  go_enter Try.func8, Try.ntmps8
  go_wp2_with fail
  ((with_reducible refine cLeaf.mono ?_); rintro _ w1 ⟨rfl, hb1⟩)
  obtain ⟨w2, hw2, hb2, hz2, hx2⟩ := al1 w1 (h.map bv).toArray 33
  have HB := Lib.hid (hb1.trans (hb2.mono hb1.size))
  have HG := Lib.hid hx2
  have cB := fun (W : World) (hW : Below w.heap.size w W) (t : Nat) (ht : t ≤ 256) => bits_any (w := W) (h := h) (b := t) (HX.out.1.below hW) hE HX.out.2.2.1 ht
  rw [HX.out.2.1] at cB
  unfold hashV at cB
  have c0 := cB w2 HB.out b hb
  clear cLeaf hb1 hb2 hz2 hx2
  unfold hashV
  go_wp2_with (first | (refine wpList_store_row rfl _ _ _ rfl w1.heap.size (h.map bv).toArray (by rfl) (by rfl) _ _ (World.alloc_heap_new w1 _) (by rw [HZ.out]; kernel_rfl) (by rw [HZ.out]; rfl) bytes_one ?_; rw [World.setRow_alloc_new, hw2]) | (refine wpList_load_row rfl 33 _ rfl w1.heap.size (by rfl) _ _ _ _ HG.out Try.underlying33 (by kernel_rfl) (by rw [HZ.out]; kernel_rfl) ?_))
  ((with_reducible refine c0.mono ?_); rintro _ w3 ⟨v, rfl, hr, hb⟩)
  have HB := Lib.hid (HB.out.trans (hb.mono HB.out.size))
  have HG := Lib.hid (below_keep hb HG.out)
  obtain ⟨aA, kA, rfl, _, _, hr, -⟩ := row_slice2 hr
  have RA := Lib.hid hr
  clear hb hr
  have c0 := cB w3 HB.out 256 (Nat.le_refl _)
  rw [show ((256 : Nat) : Int) = 256 from rfl] at c0
  go_wp2_with (refine wpList_load_row rfl 33 _ rfl w1.heap.size (by rfl) _ _ _ _ HG.out Try.underlying33 (by kernel_rfl) (by rw [HZ.out]; kernel_rfl) ?_)
  ((with_reducible refine c0.mono ?_); rintro _ w4 ⟨v, rfl, hr, hb⟩)
  have HB := Lib.hid (HB.out.trans (hb.mono HB.out.size))
  have HG := Lib.hid (below_keep hb HG.out)
  have RA := Lib.hid (RA.out.below hb)
  obtain ⟨aB, kB, rfl, _, _, hr, -⟩ := row_slice2 hr
  have RB := Lib.hid hr
  clear hb hr
  have c0 := short_any (w := w4) (HX.out.1.below HB.out) hE HS.out (i : Int) (by omega)
  rw [HSR.out] at c0
  go_wp2_with fail
  ((with_reducible refine c0.mono ?_); rintro _ w5 ⟨rfl, hb⟩)
  have HB := Lib.hid (HB.out.trans (hb.mono HB.out.size))
  have HG := Lib.hid (below_keep hb HG.out)
  have RA := Lib.hid (RA.out.below hb)
  have RB := Lib.hid (RB.out.below hb)
  clear hb
  have c0 := cB w5 HB.out sp hsp
  go_wp2_with (refine wpList_load_row rfl 33 _ rfl w1.heap.size (by rfl) _ _ _ _ HG.out Try.underlying33 (by kernel_rfl) (by rw [HZ.out]; kernel_rfl) ?_)
  ((with_reducible refine c0.mono ?_); rintro _ w6 ⟨v, rfl, hr, hb⟩)
  have HB := Lib.hid (HB.out.trans (hb.mono HB.out.size))
  have HG := Lib.hid (below_keep hb HG.out)
  have RA := Lib.hid (RA.out.below hb)
  have RB := Lib.hid (RB.out.below hb)
  obtain ⟨aC, kC, rfl, _, _, hr, -⟩ := row_slice2 hr
  have RC := Lib.hid hr
  clear hb hr
  have u06 := up_cell HB.out u0
  have hsz6 := HB.out.size
  have c0 := xfirst_any (w := w6) (ua := ua) (uc := uc) (d := d) (HX.out.1.below HB.out) hE (HX.out.2.2.2.1.below HB.out) HX.out.2.2.2.2.1 (fun x e hne => by have := (HX.out.2.2.2.2.2.2 x e hne).2; omega) (by omega)
  rw [PL.out.2.2.2.2.1] at c0
  go_wp2_with fail
  ((with_reducible refine c0.mono ?_); rintro _ w7 ⟨rfl, hb⟩)
  have HB := Lib.hid (HB.out.trans (hb.mono HB.out.size))
  have HG := Lib.hid (below_keep hb HG.out)
  have RA := Lib.hid (RA.out.below hb)
  have RB := Lib.hid (RB.out.below hb)
  have RC := Lib.hid (RC.out.below hb)
  clear hb
  unfold firstV
  have g1 : decide ((i : Int) < (j : Int)) = false := decide_eq_false (by have := PL.out.2.2.2.2.2.1; omega)
  have g2 : ¬ i < j := by have := PL.out.2.2.2.2.2.1; omega
  have c0 := within_any (w := w7) (c := kB) (d := kA) RB.out RA.out (by have := NB.out.1 256; omega) (by have := NB.out.1 b; omega)
  rw [PL.out.1] at c0
  clear u06
  go_wp2_with (first | (refine (cU _ _).mono ?_; rintro _ _ ⟨rfl, rfl⟩))
  ((with_reducible refine c0.mono ?_); rintro _ w8 ⟨rfl, hq⟩)
  have hb := drew_b hq
  have HB := Lib.hid (HB.out.trans (hb.mono HB.out.size))
  have HG := Lib.hid (below_keep hb HG.out)
  have RA := Lib.hid (RA.out.below hb)
  have RB := Lib.hid (RB.out.below hb)
  have RC := Lib.hid (RC.out.below hb)
  clear hb hq c0
  obtain ⟨w9, hw9, hb, hz9, hx9⟩ := al1 w8 #[.int .i64 (i : Int)] 3
  have ri := row_ints (l := [i]) hx9
  have HB := Lib.hid (HB.out.trans (hb.mono HB.out.size))
  have HG := Lib.hid (below_keep hb HG.out)
  have RA := Lib.hid (RA.out.below hb)
  have RB := Lib.hid (RB.out.below hb)
  have RC := Lib.hid (RC.out.below hb)
  clear hb
  have c0 := within_any (w := w9) (c := 1) (d := kB) (l := [i]) ri RB.out (by simp) (by have := NB.out.1 256; omega)
  rw [PL.out.2.1, show ([i] : List Nat).length = 1 from rfl] at c0
  clear ri hx9 hz9
  go_wp2_with fail
  ((with_reducible refine c0.mono ?_); rintro _ wA ⟨rfl, hq⟩)
  have hb := drew_b hq
  have HB := Lib.hid (HB.out.trans (hb.mono HB.out.size))
  have HG := Lib.hid (below_keep hb HG.out)
  have RA := Lib.hid (RA.out.below hb)
  have RB := Lib.hid (RB.out.below hb)
  have RC := Lib.hid (RC.out.below hb)
  clear hb hq c0
  have c0 := same_any (w := wA) (c := kC) (d := kB) RC.out RB.out (by have := NB.out.1 sp; omega)
  have e3 : (bitsN H h sp == bitsN H h 256) = true := by rw [PL.out.2.2.1]; simp
  rw [e3] at c0
  clear e3
  go_wp2_with fail
  ((with_reducible refine c0.mono ?_); rintro _ wB ⟨rfl, hq⟩)
  have hb := drew_b hq
  have HB := Lib.hid (HB.out.trans (hb.mono HB.out.size))
  have HG := Lib.hid (below_keep hb HG.out)
  have RA := Lib.hid (RA.out.below hb)
  have RB := Lib.hid (RB.out.below hb)
  have RC := Lib.hid (RC.out.below hb)
  clear hb hq c0
  have u0B := up_cell HB.out u0
  have hszB := HB.out.size
  have c0 := of_any (w := wB) (ua := ua) (uc := uc) (d := d) (HX.out.1.below HB.out) hE (HX.out.2.2.2.1.below HB.out) HX.out.2.2.2.2.1 (fun x e hne => by have := (HX.out.2.2.2.2.2.2 x e hne).2; omega) (by omega)
  go_wp2_with fail
  ((with_reducible refine c0.mono ?_); rintro _ wC ⟨v, rfl, hr, hb⟩)
  have HB := Lib.hid (HB.out.trans (hb.mono HB.out.size))
  have HG := Lib.hid (below_keep hb HG.out)
  have RA := Lib.hid (RA.out.below hb)
  have RB := Lib.hid (RB.out.below hb)
  have RC := Lib.hid (RC.out.below hb)
  obtain ⟨aD, kD, rfl, _, _, hr, -⟩ := row_slice2 hr
  have RD := Lib.hid hr
  clear hb hr
  have c0 := within_any (w := wC) (c := kD) (d := kB) RD.out RB.out (by have := NB.out.2; omega) (by have := NB.out.1 256; omega)
  rw [PL.out.2.2.2.1] at c0
  clear u0B
  go_wp2_with fail
  ((with_reducible refine c0.mono ?_); rintro _ wD ⟨rfl, hq⟩)
  have hb := drew_b hq
  have HB := Lib.hid (HB.out.trans (hb.mono HB.out.size))
  have HG := Lib.hid (below_keep hb HG.out)
  have RA := Lib.hid (RA.out.below hb)
  have RB := Lib.hid (RB.out.below hb)
  have RC := Lib.hid (RC.out.below hb)
  have RD := Lib.hid (RD.out.below hb)
  clear hb hq c0
  have hd4 : (b : Int) / 4 = (k4 : Int) := by omega
  have hd4' : Int.tdiv (b : Int) 4 = (k4 : Int) := by rw [Int.tdiv_eq_ediv_of_nonneg (by omega)]; exact hd4
  have hw4' : IntKind.i64.wrap (k4 : Int) = (k4 : Int) := by rw [Go.IntWalk.i64_in] <;> omega
  have hwm : IntKind.i64.wrap ((k4 : Int) * 4) = (k4 : Int) * 4 := by rw [Go.IntWalk.i64_in] <;> omega
  -- the end: digits and bits
  have fin : ∀ W : World, Below w.heap.size w W → W.heap[w1.heap.size]? = some (.cells (h.map bv).toArray 33 (0, 0)) → Hid True := fun _ _ _ => trivial
  clear fin
  by_cases hpos : 0 < sp
  · have d1 : decide ((0 : Int) < (sp : Int)) = true := decide_eq_true (by omega)
    have hwp : IntKind.i64.wrap ((sp : Int) - 1) = (sp : Int) - 1 := by rw [Go.IntWalk.i64_in] <;> omega
    have c0 := cB wD HB.out (sp - 1) (by omega)
    rw [show ((sp - 1 : Nat) : Int) = (sp : Int) - 1 by omega] at c0
    have hless := PL.out.2.2.2.2.2.2.1 hpos
    have HLS := Lib.hid hless
    clear hless
    go_wp2_with (refine wpList_load_row rfl 33 _ rfl w1.heap.size (by rfl) _ _ _ _ HG.out Try.underlying33 (by kernel_rfl) (by rw [HZ.out]; kernel_rfl) ?_)
    ((with_reducible refine c0.mono ?_); rintro _ wE ⟨v, rfl, hr, hb⟩)
    have HB := Lib.hid (HB.out.trans (hb.mono HB.out.size))
    have HG := Lib.hid (below_keep hb HG.out)
    have RA := Lib.hid (RA.out.below hb)
    have RB := Lib.hid (RB.out.below hb)
    have RC := Lib.hid (RC.out.below hb)
    have RD := Lib.hid (RD.out.below hb)
    obtain ⟨aE, kE, rfl, _, _, hr, -⟩ := row_slice2 hr
    have RE := Lib.hid hr
    clear hb hr
    have g5 : decide (((bitsN H h (sp - 1)).length : Int) ≤ ((bitsN H h 256).length : Int)) = false := decide_eq_false (by have := HLS.out; omega)
    have g6 : ¬ (bitsN H h (sp - 1)).length ≤ (bitsN H h 256).length := by have := HLS.out; omega
    have c0 := rtext_any (w := wE) HX.out.2.2.1
    unfold hashV at c0
    have hst := fun W => run_take_text (l := textN h) (k := k4) (by rw [textN_len]; exact hk64) W
    go_wp2_with (first | (refine (cU _ _).mono ?_; rintro _ _ ⟨rfl, rfl⟩) | (refine wpList_load_row rfl 33 _ rfl w1.heap.size (by rfl) _ _ _ _ HG.out Try.underlying33 (by kernel_rfl) (by rw [HZ.out]; kernel_rfl) ?_))
    ((with_reducible refine c0.mono ?_); rintro _ wF ⟨rfl, hb⟩)
    have HB := Lib.hid (HB.out.trans (hb.mono HB.out.size))
    have HG := Lib.hid (below_keep hb HG.out)
    have RA := Lib.hid (RA.out.below hb)
    have RB := Lib.hid (RB.out.below hb)
    have RC := Lib.hid (RC.out.below hb)
    have RD := Lib.hid (RD.out.below hb)
    have RE := Lib.hid (RE.out.below hb)
    clear hb c0
    have c0 := digits_any (w := wF) (s := (textN h).take k4) (HX.out.1.below HB.out) hE (by rw [List.length_take]; omega)
    unfold DigPost at c0
    simp only [PL.out.2.2.2.2.2.2.2.2, if_true, HX.out.2.1, PL.out.2.2.2.2.2.2.2.1] at c0
    go_wp2_with fail
    ((with_reducible refine c0.mono ?_); rintro _ wG ⟨⟨v, rfl, hr⟩, hb⟩)
    have HB := Lib.hid (HB.out.trans (hb.mono HB.out.size))
    have HG := Lib.hid (below_keep hb HG.out)
    have RA := Lib.hid (RA.out.below hb)
    have RB := Lib.hid (RB.out.below hb)
    have RC := Lib.hid (RC.out.below hb)
    have RD := Lib.hid (RD.out.below hb)
    have RE := Lib.hid (RE.out.below hb)
    obtain ⟨aF, kF, rfl, _, _, hr, -⟩ := row_slice2 hr
    have RF := Lib.hid hr
    clear hb hr
    have c0 := cB wG HB.out (k4 * 4) (by omega)
    rw [show ((k4 * 4 : Nat) : Int) = (k4 : Int) * 4 by omega] at c0
    go_wp2_with (refine wpList_load_row rfl 33 _ rfl w1.heap.size (by rfl) _ _ _ _ HG.out Try.underlying33 (by kernel_rfl) (by rw [HZ.out]; kernel_rfl) ?_)
    ((with_reducible refine c0.mono ?_); rintro _ wH ⟨v, rfl, hr, hb⟩)
    have HB := Lib.hid (HB.out.trans (hb.mono HB.out.size))
    have HG := Lib.hid (below_keep hb HG.out)
    have RA := Lib.hid (RA.out.below hb)
    have RB := Lib.hid (RB.out.below hb)
    have RC := Lib.hid (RC.out.below hb)
    have RD := Lib.hid (RD.out.below hb)
    have RE := Lib.hid (RE.out.below hb)
    have RF := Lib.hid (RF.out.below hb)
    obtain ⟨aG, kG, rfl, _, _, hr, -⟩ := row_slice2 hr
    have RG := Lib.hid hr
    clear hb hr
    have c0 := same_any (w := wH) (c := kF) (d := kG) RF.out RG.out (by have := NB.out.1 (k4 * 4); omega)
    have e3 : (bitsN H h (k4 * 4) == bitsN H h (k4 * 4)) = true := by simp
    rw [e3] at c0
    clear e3
    go_wp2_with (refine (cU _ _).mono ?_; rintro _ _ ⟨rfl, rfl⟩)
    ((with_reducible refine c0.mono ?_); rintro _ wI ⟨rfl, hq⟩)
    have hb := drew_b hq
    have HB := Lib.hid (HB.out.trans (hb.mono HB.out.size))
    have HG := Lib.hid (below_keep hb HG.out)
    have RA := Lib.hid (RA.out.below hb)
    have RB := Lib.hid (RB.out.below hb)
    have RC := Lib.hid (RC.out.below hb)
    have RD := Lib.hid (RD.out.below hb)
    have RE := Lib.hid (RE.out.below hb)
    have RF := Lib.hid (RF.out.below hb)
    have RG := Lib.hid (RG.out.below hb)
    clear hb hq c0
    go_wp2
    go_ret
    exact ⟨rfl, HB.out⟩
  · have d1 : decide ((0 : Int) < (sp : Int)) = false := decide_eq_false (by omega)
    have d2 : ¬ 0 < sp := hpos
    have d3 : sp = 0 := by omega
    clear hpos
    have c0 := rtext_any (w := wD) HX.out.2.2.1
    unfold hashV at c0
    have hst := fun W => run_take_text (l := textN h) (k := k4) (by rw [textN_len]; exact hk64) W
    go_wp2_with (first | (refine (cU _ _).mono ?_; rintro _ _ ⟨rfl, rfl⟩) | (refine wpList_load_row rfl 33 _ rfl w1.heap.size (by rfl) _ _ _ _ HG.out Try.underlying33 (by kernel_rfl) (by rw [HZ.out]; kernel_rfl) ?_))
    ((with_reducible refine c0.mono ?_); rintro _ wF ⟨rfl, hb⟩)
    have HB := Lib.hid (HB.out.trans (hb.mono HB.out.size))
    have HG := Lib.hid (below_keep hb HG.out)
    have RA := Lib.hid (RA.out.below hb)
    have RB := Lib.hid (RB.out.below hb)
    have RC := Lib.hid (RC.out.below hb)
    have RD := Lib.hid (RD.out.below hb)
    clear hb c0
    have c0 := digits_any (w := wF) (s := (textN h).take k4) (HX.out.1.below HB.out) hE (by rw [List.length_take]; omega)
    unfold DigPost at c0
    simp only [PL.out.2.2.2.2.2.2.2.2, if_true, HX.out.2.1, PL.out.2.2.2.2.2.2.2.1] at c0
    go_wp2_with fail
    ((with_reducible refine c0.mono ?_); rintro _ wG ⟨⟨v, rfl, hr⟩, hb⟩)
    have HB := Lib.hid (HB.out.trans (hb.mono HB.out.size))
    have HG := Lib.hid (below_keep hb HG.out)
    have RA := Lib.hid (RA.out.below hb)
    have RB := Lib.hid (RB.out.below hb)
    have RC := Lib.hid (RC.out.below hb)
    have RD := Lib.hid (RD.out.below hb)
    obtain ⟨aF, kF, rfl, _, _, hr, -⟩ := row_slice2 hr
    have RF := Lib.hid hr
    clear hb hr
    have c0 := cB wG HB.out (k4 * 4) (by omega)
    rw [show ((k4 * 4 : Nat) : Int) = (k4 : Int) * 4 by omega] at c0
    go_wp2_with (refine wpList_load_row rfl 33 _ rfl w1.heap.size (by rfl) _ _ _ _ HG.out Try.underlying33 (by kernel_rfl) (by rw [HZ.out]; kernel_rfl) ?_)
    ((with_reducible refine c0.mono ?_); rintro _ wH ⟨v, rfl, hr, hb⟩)
    have HB := Lib.hid (HB.out.trans (hb.mono HB.out.size))
    have HG := Lib.hid (below_keep hb HG.out)
    have RA := Lib.hid (RA.out.below hb)
    have RB := Lib.hid (RB.out.below hb)
    have RC := Lib.hid (RC.out.below hb)
    have RD := Lib.hid (RD.out.below hb)
    have RF := Lib.hid (RF.out.below hb)
    obtain ⟨aG, kG, rfl, _, _, hr, -⟩ := row_slice2 hr
    have RG := Lib.hid hr
    clear hb hr
    have c0 := same_any (w := wH) (c := kF) (d := kG) RF.out RG.out (by have := NB.out.1 (k4 * 4); omega)
    have e3 : (bitsN H h (k4 * 4) == bitsN H h (k4 * 4)) = true := by simp
    rw [e3] at c0
    clear e3
    go_wp2_with (refine (cU _ _).mono ?_; rintro _ _ ⟨rfl, rfl⟩)
    ((with_reducible refine c0.mono ?_); rintro _ wI ⟨rfl, hq⟩)
    have hb := drew_b hq
    have HB := Lib.hid (HB.out.trans (hb.mono HB.out.size))
    have HG := Lib.hid (below_keep hb HG.out)
    have RA := Lib.hid (RA.out.below hb)
    have RB := Lib.hid (RB.out.below hb)
    have RC := Lib.hid (RC.out.below hb)
    have RD := Lib.hid (RD.out.below hb)
    have RF := Lib.hid (RF.out.below hb)
    have RG := Lib.hid (RG.out.below hb)
    clear hb hq c0
    go_wp2
    go_ret
    exact ⟨rfl, HB.out⟩

end Go.Proofs.Ytljobojdcnhecaa
