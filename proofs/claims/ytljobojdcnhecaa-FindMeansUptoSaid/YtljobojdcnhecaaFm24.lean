/- Texts of this claim, one behind the other: IbY. -/
import Derived.Test.YtljobojdcnhecaaFm20
import Derived.Test.YtljobojdcnhecaaFm22
import Derived.Deep.CutRange
import Derived.Sort.QuietLawsIn
import Derived.Test.YtljobojdcnhecaaFm23
set_option linter.unusedSimpArgs false
set_option linter.unusedVariables false
set_option maxRecDepth 100000
set_option maxHeartbeats 16000000
namespace Go.Proofs.Ytljobojdcnhecaa
/- Find: FindMeans: the walk. -/
open Go.RowKit Go.Maps Go.MapKept

theorem short_of_any {L : List (List UInt8)} (h : anyLong L = false) : ∀ l ∈ L, l.length ≤ 4096 := fun l hl => by
  unfold anyLong at h
  have := List.any_eq_false.1 h l hl
  simpa using this
attribute [local go_sem] Oper.semAt_some
/-- the last hash that was told -/
def lastH (pre : List PN) : List UInt8 := ((pre.map (·.1)).getLast?).getD (List.replicate 32 0)
theorem lastH_nil : lastH [] = List.replicate 32 0 := rfl
theorem lastH_push (pre : List PN) (x : PN) : lastH (pre ++ [x]) = x.1 := by simp [lastH]
theorem lastH_len {O : List PN} (h : Ok32 O) (k : Nat) : (lastH (O.take k)).length = 32 := by
  unfold lastH
  cases e : ((O.take k).map (·.1)).getLast? with
  | none => simp
  | some y =>
    have := List.mem_of_getLast? e
    obtain ⟨p, hp, rfl⟩ := List.mem_map.1 this
    exact h p (List.mem_of_mem_take hp)
/-- what the loop over All keeps: how many, and the last hash -/
structure FmI (O : List PN) (W4 : World) (p11 p12 : Nat) (pre : List PN) (W : World) : Prop where
  is : pre = O.take pre.length
  chg : Chg (fun b => b = p11 ∨ b = p12 ∨ W4.heap.size ≤ b) W4 W
  num : W.heap[p11]? = some (.cells #[.int .i64 (pre.length : Int)] 3 (0, 0))
  last : W.heap[p12]? = some (.cells ((lastH pre).map bv).toArray 33 (0, 0))
theorem FmI.kept {O : List PN} {W4 W W' : World} {p11 p12 : Nat} {pre : List PN} (h : FmI O W4 p11 p12 pre W) {S : Nat → Prop} (hc : Chg S W W') (h1 : ∀ b, S b → W4.heap.size ≤ b) (h0 : p11 < W4.heap.size ∧ p12 < W4.heap.size) : FmI O W4 p11 p12 pre W' :=
  ⟨h.is, h.chg.trans (hc.mono (fun b hb _ => Or.inr (Or.inr (h1 b hb)))) (fun _ h _ => h), hc.obj h.num (fun ho => by have := h1 _ ho; omega), hc.obj h.last (fun ho => by have := h1 _ ho; omega)⟩
theorem meas_lt {n k : Nat} (h : wrap64 ((k : Int) + 1) = (k : Int) + 1) (hm : n - (k + 1) < n - k) : n - (RowKit.intOf (.int .i64 (wrap64 ((k : Int) + 1)))).toNat < n - (RowKit.intOf (.int .i64 (k : Int))).toNat := by
  rw [h]; exact hm
theorem chg_setRow (w : World) (g : Nat) (cs : Array Value) : Chg (· = g) w (w.setRow g cs) := ⟨rfl, rfl, rfl, by rw [setRow_size]; exact Nat.le_refl _, fun k _ hk => setRow_other w g k cs hk⟩
theorem leafR_at {E : List (List UInt8)} {n : Nat} {d : List UInt8} (h : E[n]? = some d) : leafR E (n : Int) = (leaf d, 0) := by
  have hlt := (List.getElem?_eq_some_iff.1 h).1
  unfold leafR
  rw [if_pos ⟨by omega, by omega⟩]
  simp [List.getD, h]
theorem last_le {H : List (List UInt8)} {O pre : List PN} {x : PN} (hO : ordN H = O) (hp : pre = O.take pre.length) (hx : O[pre.length]? = some x) (h0 : 0 < pre.length) : cmpB (lastH pre) x.1 ≤ 0 := by
  have hlt := (List.getElem?_eq_some_iff.1 hx).1
  have hs := ordN_sorted H
  rw [hO, List.pairwise_iff_getElem] at hs
  have h1 := hs (pre.length - 1) pre.length (by omega) hlt (by omega)
  have hxe : O[pre.length] = x := (List.getElem?_eq_some_iff.1 hx).2
  have hl : lastH pre = (O[pre.length - 1]'(by omega)).1 := by
    unfold lastH
    rw [List.getLast?_eq_getElem?, List.length_map, List.getElem?_map]
    have : pre[pre.length - 1]? = some (O[pre.length - 1]'(by omega)) := by
      have h2 : (O.take pre.length)[pre.length - 1]? = some (O[pre.length - 1]'(by omega)) := by rw [List.getElem?_take_of_lt (by omega)]; exact List.getElem?_eq_getElem _
      rw [← hp] at h2; exact h2
    rw [this]; rfl
  rw [hl]
  rw [hxe] at h1
  rcases h1 with h1 | ⟨h1, _⟩
  · omega
  · rw [h1, cmpB_self]; omega
theorem lastH_len' {O pre : List PN} (h : Ok32 O) (hp : pre = O.take pre.length) : (lastH pre).length = 32 := by rw [hp]; exact lastH_len h _
/-- a load of a row, in a quiet region of a round -/
theorem wpQuietIn_load_mid {F : Fence} {n : Nat} {P : Program} {ops : Array Oper} {C : World → Prop} {Q : Act → Prop} {rest : List Oper} {op : Oper} {a : Act} (ha : op.askedIn F P a C) (hw : Region.wanted op (yielded ops a.tmps) = true) (ty : TypeId) (x : Operand) (ho : op.op = .load ty x) (b o : Nat) (hx : a.eval x = .pointer (some ⟨b, o, none⟩)) (cs : List Value) (d : TypeDesc) (hc : ∀ w, C w → w.rangeAt b o cs)
    (hu : P.underlying ty = some d) (hd : d.isRow = true) (hi : (P.info? ty).map (·.size) = some cs.length) (hk : wpQuietIn F n P ops C Q rest (a.put op.dst (.agg cs.toArray))) : wpQuietIn F n P ops C Q (op :: rest) a :=
  Go.BigFrame.wpQuietIn_want ha hw fun K hK => ⟨_, fun w hw => by unfold Oper.quietAtIn; rw [exec_load_mid ty x ho b o hx cs d (hc w hw) hu hd hi]; exact ⟨rfl, rfl⟩, hK _ hk⟩
theorem zero32_one : zero32.all (·.oneCell') = true := by simp [zero32, Value.oneCell']
theorem XAt.far {lo : Nat} {w W : World} {bx : Nat} {E : List (List UInt8)} (h : XAt (fun b => b < lo) (fun b => b < lo) w bx E) (hc : Chg (fun b => lo ≤ b) w W) : XAt (fun b => b < lo) (fun b => b < lo) W bx E := h.kept hc (fun b _ h ho => by rcases h with h | h <;> omega) (fun _ _ h => h) (fun _ _ h => h)
theorem addR_one {L : List (List UInt8)} {k : Nat} {d : List UInt8} (hd : L[k]? = some d) (hs : d.length ≤ 4096) : addR (L.take k) [d] = (0, L.take (k + 1)) := by
  unfold addR
  rw [if_neg (by simp; omega), List.take_add_one, hd]
  rfl
theorem ents_one {w wB : World} {lo : Nat} {ua : Option Addr} {uc : Nat} {d : List UInt8} (hxB : wB.heap[w.heap.size]? = some (.cells #[.slice ua d.length uc] 30 (0, 0))) (hb : Below w.heap.size w wB) (h1 : RowAt w ua (d.map bv)) (h2 : d.length ≤ uc) (h3 : ua = none → uc = 0) (h4 : ∀ x, ua = some x → d ≠ [] → x.block < lo ∧ x.block < w.heap.size) :
    EntsR (fun b => b < lo ∨ b = w.heap.size) wB (some ⟨w.heap.size, 0, none⟩) [d] := fun _ => ⟨_, 0, rfl, .inr rfl, heap_lt hxB, fun i d' hd' => by
  cases i with
  | succ i => simp at hd'
  | zero =>
    obtain rfl : d = d' := by simpa using hd'
    exact ⟨ua, uc, ce0 hxB, h1.below hb, h2, h3, fun x hx hne => ⟨.inl (h4 x hx hne).1, Nat.lt_of_lt_of_le (h4 x hx hne).2 hb.size⟩⟩⟩
theorem findMeans_walk {R : Nat → Prop} {w : World} {a : Option Addr} {c : Nat} {L : List (List UInt8)} (hL : EntsR R w a L) (hLn : L.length ≤ 4194304) (bits : Int) (hbits : -9223372036854775808 ≤ bits ∧ bits < 9223372036854775808) :
    Calls Try.prog 3 #[.slice a L.length c, .int .i64 bits] w fun e w' => e = .returned (.bool true) ∧ Below w.heap.size w w' := by
  obtain ⟨w1, hw1, hb1, hz1, hx1⟩ := al1 w #[.slice a L.length c] 22
  obtain ⟨w2, hw2, hb2, hz2, hx2⟩ := al1 w1 #[.bool false] 4
  have cK := known_any w2
  have cU := fun v w => num_any v w
  have hB2 : Below w.heap.size w w2 := hb1.trans (hb2.mono hb1.size)
  have HL := Lib.hid hL
  refine (callsIn_wide (n := 6)).1 ?_
  refine callsIn_of_wp_marks Try.func3 rfl trivial ?_ rfl
  simp only [Try.ntmps3, List.size_toArray, List.length_cons, List.length_nil, Nat.reduceAdd, Nat.reduceSub, Array.replicate_succ, Array.replicate_zero, List.push_toArray, List.append_toArray, List.nil_append, List.cons_append]
  refine wpIn_wide.2 ?_
  go_wp2_with fail
  ((with_reducible refine cK.mono ?_); rintro _ w3 ⟨rfl, hb3⟩)
  have hB3 := hB2.trans (hb3.mono hB2.size)
  have x2 := below_keep hb3 (below_keep hb2 hx1)
  have x4 := below_keep hb3 hx2
  have hz3 := hb3.size
  have hl2 := heap_lt x2
  have hl4 := heap_lt x4
  have c2 := ce0 x2
  have cN := xnew_any (w := w3) (a := a) (c := c) (HL.out.kept (R' := fun b => b < w.heap.size ∨ R b) (Chg.of_below (O := fun _ => False) hB3) (fun _ _ _ h => h) (fun b h _ => .inl h)) hLn
  rw [hz1] at *
  obtain ⟨lg, hlg⟩ : ∃ lg, anyLong L = lg := ⟨_, rfl⟩
  rw [hlg] at cN
  have HLG := Lib.hid hlg
  have HB := Lib.hid (And.intro hB3 (And.intro x2 x4))
  clear hb1 hb2 hb3 hx1 hx2 hz1 hz2 hlg hL cK x2 x4
  cases lg with
  | true =>
    simp only [if_true] at cN
    go_wp2_with fail
    ((with_reducible refine cN.mono ?_); rintro _ w4 ⟨rfl, hb4⟩)
    obtain ⟨w5, hw5, hb5, hz5, hx5⟩ := al1 w4 #[.pointer none] 24
    obtain ⟨w6, hw6, hc6⟩ : ∃ x, w5.setCell ⟨w4.heap.size, 0, none⟩ (.pointer none) = x ∧ Chg (· = w4.heap.size) w5 x := ⟨_, rfl, Chg.set _ rfl⟩
    have hz4 := hb4.size
    have e2 := hc6.obj (below_keep hb5 (below_keep hb4 HB.out.2.1)) (by omega)
    have e4 := hc6.obj (below_keep hb5 (below_keep hb4 HB.out.2.2)) (by omega)
    have e5 := heap_set_cells (i := 0) (.pointer none) hx5
    rw [hw6] at e5
    have d2 := ce0 e2
    have d4 := ce0 e4
    have f4 := frozen_of_heap (i := 0) e4
    have d5 := cell_of_heap e5 (i := 0) (v := .pointer none) (by rfl)
    have f5 := frozen_of_heap (i := 0) hx5
    have q5 := ce0 hx5
    have HB5 := Lib.hid (And.intro e4 (((HB.out.1.trans (hb4.mono HB.out.1.size)).trans (hb5.mono (by have := HB.out.1.size; have := hb4.size; omega))).trans (hc6.belowLo6 (by have := HB.out.1.size; have := hb4.size; omega) (fun k hk => by have := HB.out.1.size; have := hb4.size; omega))))
    clear e2 e4 e5 hb4 hb5 hx5 hz5
    go_wp2_with (first | ((with_reducible refine (cU _ _).mono ?_); rintro _ _ ⟨rfl, rfl⟩))
    have y1 := cell_of_heap (heap_set_cells (i := 0) (.bool true) HB5.out.1) (i := 0) (v := .bool true) (by rfl)
    refine ⟨.bool true, by simp [results, Try.results3, go_sem, y1], ?_⟩
    exact ⟨rfl, (HB5.out.2.trans ((Chg.set (O := (· = w.heap.size + 1)) _ rfl).belowLo6 HB5.out.2.size (fun k hk => by omega)))⟩
  | false =>
    simp only [Bool.false_eq_true, if_false] at cN
    go_wp2_with fail
    ((with_reducible refine cN.mono ?_); rintro _ w4 ⟨⟨bx, F, G, rfl, hX, hFG⟩, hb4⟩)
    obtain ⟨w5, hw5, hb5, hz5, hx5⟩ := al1 w4 #[.pointer (some ⟨bx, 0, none⟩)] 24
    have e2 := below_keep hb5 (below_keep hb4 HB.out.2.1)
    have e4 := below_keep hb5 (below_keep hb4 HB.out.2.2)
    have d2 := ce0 e2
    have d4 := ce0 e4
    have f4 := frozen_of_heap (i := 0) e4
    have d5 := ce0 hx5
    have hB5 := (HB.out.1.trans (hb4.mono HB.out.1.size)).trans (hb5.mono (by have := HB.out.1.size; have := hb4.size; omega))
    have hX5 := hX.bound.below hb5
    have HB5 := Lib.hid (And.intro e2 (And.intro e4 (And.intro hx5 (And.intro hB5 (And.intro hX5 hFG)))))
    have hz4 := hb4.size
    clear e2 e4 hb4 hb5 hx5 hX hX5 hFG hB5 cN
    by_cases h60 : 60 < L.length
    · have g60 : ((60 : Int) < (L.length : Int)) := by omega
      have g60b : decide ((60 : Int) < (L.length : Int)) = true := decide_eq_true g60
      go_wp2_with (first | ((with_reducible refine (cU _ _).mono ?_); rintro _ _ ⟨rfl, rfl⟩))
      have y1 := cell_of_heap (heap_set_cells (i := 0) (.bool true) HB5.out.2.1) (i := 0) (v := .bool true) (by rfl)
      refine ⟨.bool true, by simp [results, Try.results3, go_sem, y1], ?_⟩
      exact ⟨rfl, (HB5.out.2.2.2.1.trans ((Chg.set (O := (· = w.heap.size + 1)) _ rfl).belowLo6 HB5.out.2.2.2.1.size (fun k hk => by omega)))⟩
    · have g60 : ¬ ((60 : Int) < (L.length : Int)) := by omega
      have g60b : decide ((60 : Int) < (L.length : Int)) = false := decide_eq_false g60
      have cY := xnew_any (R := fun _ => False) (w := w5) (L := []) (a := none) (c := 0) (fun h => absurd rfl h) (by decide)
      simp only [anyLong, List.any_nil, Bool.false_eq_true, if_false, List.length_nil] at cY
      go_wp2_with ((with_reducible refine (cU _ _).mono ?_); rintro _ _ ⟨rfl, rfl⟩)
      ((with_reducible refine cY.mono ?_); rintro _ w6 ⟨⟨bY, F', G', rfl, hY, hFG'⟩, hb6⟩)
      have e2 := below_keep hb6 HB5.out.1
      have e4 := below_keep hb6 HB5.out.2.1
      have e5 := below_keep hb6 HB5.out.2.2.1
      have hz6 := hb6.size
      have hX6 := HB5.out.2.2.2.2.1.below hb6
      have hY6 := hY.bound
      have hB6 := HB5.out.2.2.2.1.trans (hb6.mono HB5.out.2.2.2.1.size)
      have d2 := ce0 e2
      have d4 := ce0 e4
      have d5 := ce0 e5
      obtain ⟨q, hq⟩ : ∃ q, Int.tmod bits 257 = q := ⟨_, rfl⟩
      have hq1 : -257 < q := by have := Int.lt_tmod_of_pos bits (show (0 : Int) < 257 by decide); omega
      have hq2 : q < 257 := by have := Int.tmod_lt_of_pos bits (show (0 : Int) < 257 by decide); omega
      have HW := Lib.hid (And.intro e2 (And.intro e4 (And.intro e5 (And.intro hX6 (And.intro hY6 (And.intro hB6 hFG'))))))
      clear hFG' e2 e4 e5 hX6 hY6 hB6 hb6 hY cY hw1 hw2 hw5
      go_wp2_with fail
      ((with_reducible refine (cU _ _).mono ?_); rintro _ _ ⟨rfl, rfl⟩)
      have hw257 : IntKind.i64.wrap q = q := Go.IntWalk.i64_in _ (by omega)
      have hmod : bits.tmod 257 = q := hq
      have hqd : decide (q < 0) = decide (q < 0) := rfl
      go_upto_if 62 with fail
      go_cut [9] from 61 to 64 (fun s9 wx => ∃ b : Nat, b ≤ 256 ∧ s9 = .int .i64 (b : Int) ∧ w6 = wx)
      case first =>
        by_cases hneg : q < 0
        · have g1 : decide (q < 0) = true := decide_eq_true hneg
          have g2 : IntKind.i64.wrap (q + 257) = q + 257 := Go.IntWalk.i64_in _ (by omega)
          go_wp2
          go_meet
          case rel => exact ⟨(q + 257).toNat, by omega, by rw [Int.toNat_of_nonneg (by omega)], rfl⟩
        · have g1 : decide (q < 0) = false := decide_eq_false hneg
          go_wp2
          go_meet
          case rel => exact ⟨q.toNat, by omega, by rw [Int.toNat_of_nonneg (by omega)], rfl⟩
      case rest =>
        obtain ⟨b, hb, rfl, rfl⟩ := hcut
        clear hqd hw257 hmod hq hq1 hq2 d2 d4 d5
        obtain ⟨e2, e4, e5, hX0, hY0, hB6, hFG'⟩ := HW.out
        obtain ⟨lo, hlo⟩ : ∃ lo, w5.heap.size = lo := ⟨_, rfl⟩
        have hX : XAt (fun b => b < lo) (fun b => b < lo) w6 bx L := hX0.kept (Chg.refl (fun _ => False) w6) (fun _ _ _ h => h) (fun b _ h => by have := h.2; omega) (fun b _ h => by have := h.2; omega)
        have hY : XAt (fun b => lo ≤ b ∧ b < w6.heap.size) (fun b => lo ≤ b ∧ b < w6.heap.size) w6 bY [] := hY0.kept (Chg.refl (fun _ => False) w6) (fun _ _ _ h => h) (fun b _ h => ⟨by have := hFG' b (.inl h.1); omega, h.2⟩) (fun b _ h => ⟨by have := hFG' b (.inr h.1); omega, h.2⟩)
        have hn60 : L.length ≤ 60 := by omega
        have hsh := short_of_any HLG.out
        have hlo6 : lo ≤ w6.heap.size := by omega
        have hp5 : w.heap.size + 1 < w4.heap.size ∧ w4.heap.size < lo := by omega
        obtain ⟨p5, hp5e⟩ : ∃ p5, w4.heap.size = p5 := ⟨_, rfl⟩
        rw [hp5e] at e5 hp5 ⊢
        have HXY := Lib.hid (And.intro e2 (And.intro e4 (And.intro e5 (And.intro hX (And.intro hB6 (And.intro hsh (And.intro hlo6 hp5)))))))
        have HL6 := Lib.hid (HL.out.kept (R' := fun b => b < lo) (Chg.of_below (O := fun _ => False) hB6) (fun _ _ _ h => h) (fun b h _ => by omega))
        clear e2 e4 e5 hX0 hY0 hB6 hFG' hX hsh hlo6 hp5 HW hz6 hz5 hz4 hz3 hl2 hl4 hlo hp5e HB HB5 hB2
        go_wp2
        go_loopw [10] (fun i wr => ∃ k : Nat, k ≤ L.length ∧ i = .int .i64 k ∧ Chg (fun b => lo ≤ b) w6 wr ∧ XAt (fun b => lo ≤ b ∧ b < wr.heap.size) (fun b => lo ≤ b ∧ b < wr.heap.size) wr bY (L.take k)) (fun i _ => L.length - (RowKit.intOf i).toNat)
        case atStart => exact ⟨0, Nat.zero_le _, rfl, Chg.refl _ _, hY⟩
        case round =>
          obtain ⟨k, hk, rfl, hc, hYk⟩ := hrel
          have hc2 := hc.obj HXY.out.1 (by have := HXY.out.2.2.2.2.2.2.2; omega)
          have hc5 := hc.obj HXY.out.2.2.1 (by have := HXY.out.2.2.2.2.2.2.2; omega)
          have q2 := ce0 hc2
          by_cases hlt : k < L.length
          · obtain ⟨d, hd⟩ : ∃ d, L[k]? = some d := ⟨_, List.getElem?_eq_getElem hlt⟩
            have hds := HXY.out.2.2.2.2.2.1 d (List.mem_of_getElem? hd)
            obtain ⟨ab, ao, rfl, hab, habs, hcells⟩ := (HL6.out.kept (R' := fun b => b < lo) hc (fun b _ h ho => by omega) (fun _ _ h => h)) (fun e => by rw [e] at hlt; simp at hlt)
            obtain ⟨ua, uc, u0, u1, u2, u3, u4⟩ := hcells k d hd
            obtain ⟨wB, hwB, hbB, hzB, hxB⟩ := al1 wr #[.slice ua d.length uc] 30
            have hE1 := ents_one (lo := lo) hxB hbB u1 u2 u3 u4
            have hlow := HXY.out.2.2.2.2.2.2.1
            have hwr := hc.size
            have cA := add_any (c := 1) (hYk.below hbB) hE1 (fun b _ h ho => by rcases h with h | h <;> omega) (by rw [List.length_take]; simp; omega)
            rw [addR_one hd hds, show [d].length = 1 from rfl] at cA
            have j0 : (0 : Int) ≤ (k : Int) := by omega
            have j1 : (k : Int) < (L.length : Int) := by omega
            have hcB := hc.trans (Chg.of_below (O := fun b => lo ≤ b) hbB) (fun _ h _ => h)
            have HCB := Lib.hid hcB
            clear hcells habs u1 u2 u3 u4 hE1 hds hd hc hYk hbB hxB hzB hcB hc2 hc5 hwr hlow hab
            go_wp2_with fail
            ((with_reducible refine cA.mono ?_); rintro _ w7 ⟨rfl, hY7, hc7⟩)
            have hcW := HCB.out.trans (hc7.mono (O' := fun b => lo ≤ b) (fun b h _ => h.1)) (fun _ h _ => h)
            have hc2 := hcW.obj HXY.out.1 (by have := HXY.out.2.2.2.2.2.2.2; omega)
            have hc5 := hcW.obj HXY.out.2.2.1 (by have := HXY.out.2.2.2.2.2.2.2; omega)
            have r2 := ce0 hc2
            have r5 := ce0 hc5
            have cM := means_any (w := w7) (la := some ⟨ab, ao, none⟩) (lc := c) (i := k) (b := b) (HXY.out.2.2.2.1.far hcW) (HL6.out.kept (R' := fun b => b < lo) hcW (fun b _ h ho => by omega) (fun _ _ h => h)) hLn HXY.out.2.2.2.2.2.1 hlt hb
            have HW7 := Lib.hid (And.intro hcW hY7)
            clear hcW hY7 hc7 cA q2 u0 hc2 hc5
            go_wp2_with fail
            ((with_reducible refine (cU _ _).mono ?_); rintro _ _ ⟨rfl, rfl⟩)
            go_wp2_with fail
            ((with_reducible refine cM.mono ?_); rintro _ w8 ⟨rfl, hb8⟩)
            have hcX := HW7.out.1.trans (Chg.of_below (O := fun b => lo ≤ b) hb8) (fun _ h _ => h)
            have hYX := (HW7.out.2.below hb8).bound
            have hlow := HXY.out.2.2.2.2.2.2.1
            have hwB : lo ≤ wB.heap.size := by have := HCB.out.size; omega
            have hYX' : XAt (fun b => lo ≤ b ∧ b < w8.heap.size) (fun b => lo ≤ b ∧ b < w8.heap.size) w8 bY (L.take (k + 1)) := hYX.kept (Chg.refl (fun _ => False) w8) (fun _ _ _ h => h) (fun b _ h => ⟨by rcases h.1 with h | h <;> omega, h.2⟩) (fun b _ h => ⟨by rcases h.1 with h | h <;> omega, h.2⟩)
            have H8 := Lib.hid (And.intro hcX hYX')
            clear hcX hYX hYX' hb8 cM hlow hwB r2 r5
            go_wp2
            go_roundw
            case rel => exact ⟨k + 1, by omega, by go_num, H8.out.1, H8.out.2⟩
            case measure => simp [RowKit.intOf]; omega
          · have e : k = L.length := by omega
            subst e
            rw [List.take_length] at hYk
            have j2 : ¬ ((L.length : Int) < (L.length : Int)) := by omega
            have HYk := Lib.hid (And.intro hc hYk)
            clear hYk hc hc2 hlt
            obtain ⟨wA, hwA, hbA, hzA, hxA⟩ := al1 wr #[.int .i64 0] 3
            obtain ⟨wC, hwC, hcC⟩ : ∃ x, wA.setCell ⟨wr.heap.size, 0, none⟩ (.int .i64 0) = x ∧ Chg (· = wr.heap.size) wA x := ⟨_, rfl, Chg.set _ rfl⟩
            have hxC := heap_set_cells (i := 0) (.int .i64 0) hxA
            have fA := frozen_of_heap (i := 0) hxA
            have qA := ce0 hxA
            rw [hwC] at hxC
            obtain ⟨wD, hwD, hbD, hzD, hxD⟩ := al1 wC zero32 33
            have hzC : wC.heap.size = wr.heap.size + 1 := by rw [← hwC, ← hzA]; simp [World.setCell]
            have cA := all_any wD (.pointer (some ⟨bx, 0, none⟩)) (.inr ⟨bx, rfl⟩)
            have hcr : Chg (fun b => wr.heap.size ≤ b) wr wD := ((Chg.of_below (O := fun b => wr.heap.size ≤ b) hbA).trans (hcC.mono (fun b h _ => Nat.le_of_eq h.symm)) (fun _ h _ => h)).trans (Chg.of_below hbD) (fun _ h _ => h)
            have hxD11 := hcr
            have x11 := below_keep hbD hxC
            have HD := Lib.hid (And.intro hcr (And.intro x11 (And.intro hxD hzD)))
            have q5 := (hcr.obj hc5 (by have := heap_lt hc5; omega))
            have q5 := ce0 q5
            have hsm : wD.setRow (wr.heap.size + 1) zero32 = wD := by rw [← hzC, ← hwD, World.setRow_alloc_new]
            have hxD' := hxD
            rw [hzC] at hxD'
            have HSM := Lib.hid (And.intro hsm hxD')
            clear hsm hxD'
            unfold zero32 at hwD
            have hnf := func_nil
            have hz32 : Hid (zero32.size = 32) := rfl
            clear hcr hxD11 x11 hxD hbD hxC hcC hbA hxA hc5
            go_wp2_with (first | (refine wpList_build_of rfl _ _ rfl zero32 (by kernel_rfl) ?_) | (refine wpList_store_row rfl _ _ _ rfl (wr.heap.size + 1) zero32 (by rfl) (by rfl) _ _ HSM.out.2 (by kernel_rfl) (by kernel_rfl) zero32_one ?_; rw [HSM.out.1]))
            ((with_reducible refine cA.mono ?_); rintro _ wE ⟨rfl, hxE, hbE⟩)
            obtain ⟨H, hHe⟩ : ∃ H, L.map leaf = H := ⟨_, rfl⟩
            obtain ⟨O, hOe⟩ : ∃ O, ordN H = O := ⟨_, rfl⟩
            have hH32 : Len32 H := by rw [← hHe]; exact leafs_len L
            have hHl : H.length = L.length := by rw [← hHe, List.length_map]
            have hOl : O.length = L.length := by rw [← hOe, ordN_length, hHl]
            have hok : Ok32 O := by rw [← hOe]; exact hH32.ord
            have hcE : Chg (fun b => wr.heap.size ≤ b) wr wE := HD.out.1.trans (Chg.of_below hbE) (fun _ h _ => h)
            have hwr : lo ≤ wr.heap.size := by have := HYk.out.1.size; have := HXY.out.2.2.2.2.2.2.1; omega
            have hcF : Chg (fun b => lo ≤ b) w6 wE := HYk.out.1.trans (hcE.mono (fun b h _ => Nat.le_trans hwr h)) (fun _ h _ => h)
            have hXE := HXY.out.2.2.2.1.far hcF
            have hYE := HYk.out.2.kept (F' := fun b => lo ≤ b ∧ b < wr.heap.size) (G' := fun b => lo ≤ b ∧ b < wr.heap.size) hcE (fun b _ h ho => by rcases h with h | h <;> omega) (fun _ _ h => h) (fun _ _ h => h)
            have hzD' : wD.heap.size = wr.heap.size + 2 := by rw [HD.out.2.2.2, hzC]
            have hzE := hbE.size
            have hlE := heap_lt hxE
            have x11 := below_keep hbE HD.out.2.1
            have x12 := below_keep hbE HSM.out.2
            have hI0 : FmI O wE wr.heap.size (wr.heap.size + 1) [] wE := ⟨rfl, Chg.refl _ _, x11, x12⟩
            obtain ⟨ve, vo, vm, y1, -, -, -, y5, y6, -⟩ := hXE
            rw [hHe, hOe, hHl, ← hOl] at y5
            have hqx := all1_seq 5 (by omega) (w := wE) (gx := wD.heap.size) hxE y1 y5 hok (by omega)
            obtain ⟨p11, hp11⟩ : ∃ p11, wr.heap.size = p11 := ⟨_, rfl⟩
            obtain ⟨gx, hgx⟩ : ∃ gx, wD.heap.size = gx := ⟨_, rfl⟩
            rw [hp11] at hI0 hwr hYE hcE ⊢
            rw [hgx] at hqx ⊢
            have HE := Lib.hid (And.intro hcF (And.intro (HXY.out.2.2.2.1.far hcF) (And.intro hYE (And.intro hI0 (And.intro y5 y6)))))
            have HP := Lib.hid (show lo ≤ p11 ∧ p11 + 1 < wE.heap.size by omega)
            have HO := Lib.hid (And.intro hOe (And.intro hHe (And.intro hok (And.intro hOl hH32))))
            clear hcF hYE hI0 y5 y6 hwr hcE x11 x12 y1 hHe hHl hOe hOl hok hH32 hbE hxE hzE hlE hzD' HSM cA hzC hzA hzD hwD hwC hwA fA qA q5 q2 hz32 HD hp11 hgx HYk
            go_wp2
            refine (wpIn_wide (n := 6)).1 ?_
            refine wpIn_rangeFunc_Y rfl (by omega) (gf := 31) (lb := #[.pointer (some ⟨gx, 0, none⟩)]) rfl trivial (enters_of Try.func31 (by kernel_rfl) rfl)
              (w0 := wE) hqx (fun h k => h.trans k) (fun W o o' ho => KpO.of_chg (hi := lo) (chg_putObj6 W _ _) (fun b hb => HE.out.2.2.2.2.2 b hb) (fun b hb h => by have := HP.out; omega) (by have := heap_lt ho; have := HP.out; omega)) (Below.refl _ _) (fun _ => rfl) (fun _ _ _ _ h => h.grown)
              (fun pre W => FmI O wE p11 (p11 + 1) pre W)
              (fun c pre W => False)
              ?gr ?lo ?lox HE.out.2.2.2.1 ?round ?done ?stop
            case gr =>
              rintro s A B g1 hg
              exact g1.kept (Chg.of_grown (O := fun _ => False) hg (fun k e => by cases e)) (fun _ h => h.elim) (by have := HP.out; omega)
            case lo =>
              rintro s W o o' g1 ho
              exact g1.kept (chg_putObj6 W (wE.heap.size + 1) (.loop o')) (fun b hb => by omega) (by have := HP.out; omega)
            case lox => rintro c s W o o' g0 ho; exact g0
            case stop => rintro c pre W _ g0; exact g0.elim
            case round =>
              rintro l pre x W0 W g1 ⟨y1, hbY⟩ hlt
              have hPP := HP.out
              have g2 := g1.kept (Chg.of_below (O := fun _ => False) hbY) (fun _ h => h.elim) (by omega)
              have hsY := hbY.size
              have hx32 := HO.out.2.2.1 x (List.mem_of_getElem? y1)
              obtain ⟨d, hd, hdx⟩ : ∃ d, L[x.2]? = some d ∧ leaf d = x.1 := by
                have h1 := List.mem_of_getElem? y1
                rw [← HO.out.1, ordN_mem, ← HO.out.2.1, List.getElem?_map] at h1
                cases e : L[x.2]? with
                | none => rw [e] at h1; cases h1
                | some d => rw [e] at h1; exact ⟨d, rfl, by simpa using h1⟩
              have hkL : x.2 < L.length := (List.getElem?_eq_some_iff.1 hd).1
              obtain ⟨wA, hwA, hbA, hzA, hxA⟩ := al1 W (x.1.map bv).toArray 33
              have hsz : Hid ((x.1.map bv).toArray.size = 32) := by show _ = _; simp [hx32]
              have HY1 := Lib.hid y1
              have HG2 := Lib.hid g2
              have HA := Lib.hid (And.intro hbA (And.intro hzA hxA))
              have HD := Lib.hid (And.intro hd hdx)
              clear y1 hbY g1 g2 hbA hxA hd hdx hqx hzA
              simp only [encP, hashV]
              gi_wp2_with (refine wpListIn_store_row rfl _ _ _ rfl W.heap.size (x.1.map bv).toArray (by rfl) (by rfl) _ _ (World.alloc_heap_new W _) (by rw [hsz.out]; kernel_rfl) (by rw [hsz.out]; rfl) bytes_one ?_; rw [World.setRow_alloc_new, hwA])
              refine ⟨fun b h1 h2 => HA.out.1.block b (by omega), ?_⟩
              intro o o' ho
              obtain ⟨W2, hW2⟩ : ∃ W2, wA.putObj (wE.heap.size + 1) (.loop o') = W2 := ⟨_, rfl⟩
              have hcP : Chg (· = wE.heap.size + 1) wA W2 := by rw [← hW2]; exact chg_putObj6 _ _ _
              rw [hW2]
              clear hW2 ho
              have hlo6 := HXY.out.2.2.2.2.2.2.2
              have hlt6 := heap_lt HXY.out.2.2.1
              have g3 := (HG2.out.kept (Chg.of_below (O := fun b => wE.heap.size ≤ b) HA.out.1) (fun b h => h) (by omega)).kept hcP (fun b h => by omega) (by omega)
              have hcE : Chg (fun b => lo ≤ b) wE W2 := g3.chg.mono (fun b h _ => by omega)
              have hc6 := HE.out.1.trans hcE (fun _ h _ => h)
              have hXW := HE.out.2.1.far hcE
              have x14 := hcP.obj HA.out.2.2 (by omega)
              have e5 := hc6.obj HXY.out.2.2.1 (by omega)
              have q5 := ce0 e5
              have cLf := leaf_any hXW HXY.out.2.2.2.2.2.1 (x.2 : Int) (by omega)
              rw [leafR_at HD.out.1, HD.out.2] at cLf
              have hzA := HA.out.2.1
              have hz2 := hcP.size
              have H2 := Lib.hid (And.intro g3 (And.intro hc6 (And.intro x14 (And.intro e5 hcP))))
              clear g3 hcE hXW x14 e5 hcP
              unfold hashV at cLf
              gi_wp2_with fail
              refine ⟨trivial, ?_⟩
              ((with_reducible refine (CallsIn.inRound l (callsIn_wide.2 cLf)).mono ?_); rintro _ W3 ⟨rfl, hb3⟩)
              obtain ⟨W4, hW4, hb4, hz4, hx4⟩ := al1 W3 (x.1.map bv).toArray 33
              clear cLf
              gi_wp2_with (refine wpListIn_store_row rfl _ _ _ rfl W3.heap.size (x.1.map bv).toArray (by rfl) (by rfl) _ _ (World.alloc_heap_new W3 _) (by rw [hsz.out]; kernel_rfl) (by rw [hsz.out]; rfl) bytes_one ?_; rw [World.setRow_alloc_new, hW4])
              have hB4 := bthen hb3 (hb4.mono (Nat.le_refl _))
              have hz3 := hb3.size
              have g4 := H2.out.1.kept (Chg.of_below (O := fun b => wE.heap.size ≤ b) hB4) (fun b h => by omega) (by omega)
              have hc4 := H2.out.2.1.trans (Chg.of_below (O := fun b => lo ≤ b) hB4) (fun _ h _ => h)
              have x14 := below_keep hB4 H2.out.2.2.1
              have e2 := hc4.obj HXY.out.1 (by omega)
              obtain ⟨ab, ao, rfl, hab, habs, hcells⟩ := (HL6.out.kept (R' := fun b => b < lo) hc4 (fun b _ h ho => by omega) (fun _ _ h => h)) (fun e => by rw [e] at hkL; simp at hkL)
              obtain ⟨ua, uc, u0, u1, u2, u3, u4⟩ := hcells x.2 d HD.out.1
              have hlast32 := lastH_len' HO.out.2.2.1 g4.is
              have d2 := cell_regrown (ce0 e2)
              have d11 := cell_regrown (ce0 g4.num)
              have du := cell_regrown u0
              have r14 := range_heap x14
              have r16 := range_heap hx4
              have r12 := range_heap g4.last
              have hR : Hid (∀ (b : Nat) (cs : List Value), W4.rangeAt b 0 cs → ∀ w', (∃ p : Regrown, w' = Go.Sort.grow (redrawn W4 p.d) p.os) → w'.rangeAt b 0 cs) := fun b cs h w' hp => by obtain ⟨p, rfl⟩ := hp; exact range_up (below_regrown W4 p.d p.os) h
              have hds := HXY.out.2.2.2.2.2.1 d (List.mem_of_getElem? HD.out.1)
              have cN := fun (v : Value) (dd : Nat) (os : Array Obj) => CallsIn.regrown_of (CallsIn.inRound l ((callsIn_wide (n := 3)).2 ((cU v (Go.Sort.grow (redrawn W4 dd) os)).mono fun e w' h => (⟨h.1, h.2 ▸ Below.refl _ _⟩ : e = .returned v ∧ Below (Go.Sort.grow (redrawn W4 dd) os).heap.size (Go.Sort.grow (redrawn W4 dd) os) w'))))
              have cH := fun (dd : Nat) (os : Array Obj) => CallsIn.regrown_of (CallsIn.inRound l ((callsIn_wide (n := 3)).2 (rleaf_any (c := uc) (u1.below (below_regrown W4 dd os)) u3 (by omega))))
              have cC := fun (dd : Nat) (os : Array Obj) => CallsIn.regrown_of (CallsIn.inRound l ((callsIn_wide (n := 3)).2 (rcompare_any (w := Go.Sort.grow (redrawn W4 dd) os) hlast32 hx32)))
              rw [HD.out.2] at cH
              have hE := fun w => hash_equal hx32 hx32 w
              unfold hashV at cH cC hE
              have j0 : (0 : Int) ≤ (x.2 : Int) := by omega
              have j1 : (x.2 : Int) < (L.length : Int) := by omega
              have hxx : decide (x.1 = x.1) = true := by simp
              rw [hxx] at hE
              have HR14 := Lib.hid r14
              have HR16 := Lib.hid r16
              have HR12 := Lib.hid r12
              have H4 := Lib.hid (And.intro g4 (And.intro hc4 (And.intro x14 hB4)))
              have hLen : Hid ((x.1.map bv).length = 32) := by show _ = _; simp [hx32]
              have hLen2 : Hid (((lastH pre).map bv).length = 32) := by show _ = _; simp [hlast32]
              have hcase : Hid (0 < pre.length → decide (0 < cmpB (lastH pre) x.1) = false) := fun h0 => by have := last_le HO.out.1 g4.is HY1.out h0; simp; omega
              clear hb3 hb4 hx4 hB4 g4 hc4 x14 e2 hcells u1 u2 u3 u4 r14 r16 r12 hds hxx u0 habs hab hx32 hlast32
              gi_wp2_with fail
              have hsplit : Hid ((decide ((0 : Int) < (pre.length : Int)) = true ∧ decide (0 < pre.length) = true) ∨ (decide ((0 : Int) < (pre.length : Int)) = false ∧ decide (0 < pre.length) = false)) := by
                by_cases h : 0 < pre.length
                · exact .inl ⟨by simpa using h, by simpa using h⟩
                · exact .inr ⟨by simpa using h, by simpa using h⟩
              obtain ⟨hg, hg'⟩ | ⟨hg, hg'⟩ := hsplit.out
              have hc0 := hcase.out (by simpa using hg)
              all_goals
                refine wpIn_region_quiet_belowR rfl (by kernel_rfl) (by kernel_rfl) (by kernel_rfl) ?_
                repeat (first
                | (refine wpQuietIn_load_mid asked_wide (by rfl) 33 _ rfl W3.heap.size 0 (by rfl) _ _ (hR.out _ _ HR16.out) Try.underlying33 rfl (by rw [hLen.out]; kernel_rfl) ?_)
                | (refine wpQuietIn_load_mid asked_wide (by rfl) 33 _ rfl W.heap.size 0 (by rfl) _ _ (hR.out _ _ HR14.out) Try.underlying33 rfl (by rw [hLen.out]; kernel_rfl) ?_)
                | (refine wpQuietIn_load_mid asked_wide (by rfl) 33 _ rfl (p11 + 1) 0 (by rfl) _ _ (hR.out _ _ HR12.out) Try.underlying33 rfl (by rw [hLen2.out]; kernel_rfl) ?_)
                | (refine wpQuietIn_step asked_wide (fun K hK => ?_); go_simp; first | (refine hK _ ?_; clear hK K) | (apply Exists.intro; refine ⟨fun _ => ?_, hK _ ?_⟩; (first | exact cN _ _ _ | exact cH _ _ | exact cC _ _); clear hK K)))
                refine wpQuietIn_nil ?_
                intro Wn hbn
                have hzn := hbn.size
                have g5 := H4.out.1.kept (Chg.of_below (O := fun b => wE.heap.size ≤ b) hbn) (fun b h => by omega) (by omega)
                have x14n := below_keep hbn H4.out.2.2.1
                have rn := range_heap x14n
                have HRn := Lib.hid rn
                have HKn := Lib.hid (And.intro g5 (And.intro x14n hbn))
                have c11 := ce0 g5.num
                have f11 := frozen_of_heap (i := 0) g5.num
                have hnum := g5.num
                have hlst := g5.last
                have hXn := chg_setRow Wn (p11 + 1) (x.1.map bv).toArray
                have c11' := ce0 (hXn.obj hnum (by omega))
                have f11' := frozen_of_heap (i := 0) (hXn.obj hnum (by omega))
                have hp60 : pre.length < 60 := by
                  have h1 := (List.getElem?_eq_some_iff.1 HY1.out).1
                  rw [HO.out.2.2.2.1] at h1; omega
                have hwr1 : IntKind.i64.wrap ((pre.length : Int) + 1) = ((pre.length + 1 : Nat) : Int) := by rw [Go.IntWalk.i64_in] <;> omega
                have HXn := Lib.hid (And.intro hXn (And.intro hnum hlst))
                clear g5 x14n rn hnum hlst hXn hbn cN cH cC hE d2 d11 du j0 j1
                gi_wp2_with (first
                  | (refine wpListIn_load_mid rfl 33 _ rfl W.heap.size 0 (by rfl) _ _ HRn.out Try.underlying33 rfl (by rw [hLen.out]; kernel_rfl) ?_)
                  | (refine wpListIn_store_row rfl _ _ _ rfl (p11 + 1) (x.1.map bv).toArray (by rfl) (by rfl) _ _ HXn.out.2.2 (by rw [hsz.out]; kernel_rfl) (by rw [hsz.out, List.size_toArray]; exact hLen2.out) bytes_one ?_))
                obtain ⟨V, hV⟩ : ∃ V, Wn.setRow (p11 + 1) (x.1.map bv).toArray = V := ⟨_, rfl⟩
                obtain ⟨hXn, hnum, hlst⟩ := HXn.out
                have hl12 := setRow_heap Wn (p11 + 1) _ (x.1.map bv).toArray _ _ hlst
                rw [hV] at hXn hl12 ⊢
                obtain ⟨X, hX, hcX⟩ : ∃ X, V.setCell ⟨p11, 0, none⟩ (.int .i64 ((pre.length : Int) + 1)) = X ∧ Chg (· = p11) V X := ⟨_, rfl, Chg.set _ rfl⟩
                have hn11 := heap_set_cells (i := 0) (.int .i64 ((pre.length : Int) + 1)) (hXn.obj hnum (by omega))
                rw [hX] at hn11 ⊢
                obtain ⟨g5, x14n, hbn⟩ := HKn.out
                have hbA := HA.out.1
                have hsA := HA.out.1.size
                have hs4 := H4.out.2.2.2.size
                have hcY := H2.out.2.2.2.2
                have hcT : Chg (fun b => b = p11 ∨ b = p11 + 1 ∨ W2.heap.size ≤ b) W2 X := ((((Chg.of_below (O := fun b => W2.heap.size ≤ b) H4.out.2.2.2).trans (Chg.of_below (O := fun b => W2.heap.size ≤ b) hbn) (fun _ h _ => h)).mono (O' := fun b => b = p11 ∨ b = p11 + 1 ∨ W2.heap.size ≤ b) (fun b h _ => .inr (.inr h))).trans hXn (fun b h _ => .inr (.inl h))).trans hcX (fun b h _ => .inl h)
                have hcW : Chg (fun b => b = wE.heap.size + 1 ∨ b = p11 ∨ b = p11 + 1 ∨ W.heap.size ≤ b) W X := (((Chg.of_below (O := fun b => W.heap.size ≤ b) hbA).mono (fun b h _ => .inr (.inr (.inr h)))).trans hcY (fun b h _ => .inl h)).trans hcT (fun b h _ => by rcases h with h | h | h <;> omega)
                refine ⟨fun k h1 h2 => hcT.block k (by omega) (by omega), KpO.of_chg (hi := lo) hcW (fun b hb => HE.out.2.2.2.2.2 b hb) (fun b hb h => by omega) (by omega), ?_, ?_, ?_, ?_⟩
                · rw [List.length_append, List.length_singleton, List.take_add_one, HY1.out, ← g5.is]; rfl
                · exact (g5.chg.trans hXn (fun b h _ => .inr (.inl h))).trans hcX (fun b h _ => .inl h)
                · rw [List.length_append, List.length_singleton, show ((pre.length + 1 : Nat) : Int) = (pre.length : Int) + 1 by omega]; exact hn11
                · rw [lastH_push]; exact hcX.obj hl12 (by omega)
            case done =>
              rintro xs W5 hSx g1 hD
              rw [show xs = O from hSx] at g1
              clear hSx
              have hPP := HP.out
              have hlo6 := HXY.out.2.2.2.2.2.2.2
              have hlt6 := heap_lt HXY.out.2.2.1
              have hlt60 := heap_lt HXY.out.2.1
              have hcE : Chg (fun b => lo ≤ b) wE W5 := g1.chg.mono (fun b h _ => by omega)
              have hc6 := HE.out.1.trans hcE (fun _ h _ => h)
              have hXW := HE.out.2.1.far hcE
              have hYW := HE.out.2.2.1.kept (F' := fun b => lo ≤ b ∧ b < p11) (G' := fun b => lo ≤ b ∧ b < p11) g1.chg (fun b _ h ho => by rcases h with h | h <;> omega) (fun _ _ h => h) (fun _ _ h => h)
              have e2 := hc6.obj HXY.out.1 (by omega)
              have e4 := hc6.obj HXY.out.2.1 (by omega)
              have e5 := hc6.obj HXY.out.2.2.1 (by omega)
              have cC := counts_any hXW (by omega) (b := b % 17) (by omega)
              have hnum := g1.num
              rw [HO.out.2.2.2.1] at hnum
              have d5 := ce0 e5
              have hm1 : Int.tmod (b : Int) 17 = ((b % 17 : Nat) : Int) := by rw [Int.tmod_eq_emod_of_nonneg (by omega)]; omega
              have hm2 : IntKind.i64.wrap ((b % 17 : Nat) : Int) = ((b % 17 : Nat) : Int) := by rw [Go.IntWalk.i64_in] <;> omega
              have H5 := Lib.hid (And.intro hc6 (And.intro hXW (And.intro hYW (And.intro e2 (And.intro e4 (And.intro e5 (And.intro hnum hD)))))))
              clear g1 hcE hc6 hXW hYW e2 e4 e5 hnum hD hqx
              generalize hbm : b % 17 = bm at *
              have hbm16 : bm ≤ 16 := by omega
              clear hbm
              go_wp2_with fail
              ((with_reducible refine cC.mono ?_); rintro _ W6 ⟨v, rfl, hr, hb6⟩)
              obtain ⟨aC, kC, rfl, hkC, -, hrC, hoC⟩ := row_slice2 hr
              obtain ⟨C, hC⟩ : ∃ C, countsN (L.map leaf) bm = C := ⟨_, rfl⟩
              have hsum : C.sum = L.length := by rw [← hC, sum_counts _ hbm16, List.length_map]
              have hCl : C.length ≤ 65536 := by
                rw [← hC]; unfold countsN
                rw [List.length_map, List.length_range]
                exact Nat.pow_le_pow_right (by decide) hbm16
              rw [hC] at hrC hkC ⊢
              have H6 := Lib.hid (And.intro hb6 (And.intro hrC (And.intro hsum hCl)))
              clear hr hoC hb6 hsum hC cC hkC hrC hCl
              go_wp2
              go_loopw [20, 21] (fun s i wr => ∃ k : Nat, k ≤ C.length ∧ s = .int .i64 ((C.take k).sum : Nat) ∧ i = .int .i64 k ∧ wr = W6) (fun _ i _ => C.length - (RowKit.intOf i).toNat)
              case atStart => exact ⟨0, Nat.zero_le _, rfl, rfl, rfl⟩
              case round =>
                obtain ⟨k, hk, rfl, rfl, rfl⟩ := hrel
                by_cases hlt : k < C.length
                · obtain ⟨y, hy⟩ : ∃ y, C[k]? = some y := ⟨_, List.getElem?_eq_getElem hlt⟩
                  obtain ⟨cb, co, rfl, hcell⟩ := H6.out.2.1 (fun e => by have := congrArg List.length e; simp at this; rw [this] at hlt; simp at hlt)
                  have cy := hcell k (.int .i64 (y : Int)) (by rw [List.getElem?_map, hy]; rfl)
                  have hts : (C.take (k + 1)).sum = (C.take k).sum + y := by rw [List.take_add_one, hy, List.sum_append]; simp
                  have hle : (C.take (k + 1)).sum ≤ L.length := by
                    rw [← H6.out.2.2.1, ← List.take_append_drop (k + 1) C, List.sum_append, List.take_append_drop]
                    omega
                  have hws : IntKind.i64.wrap (((C.take k).sum : Int) + (y : Int)) = ((C.take k).sum : Int) + (y : Int) := by rw [Go.IntWalk.i64_in] <;> omega
                  have j0 : (0 : Int) ≤ (k : Int) := by omega
                  have j1 : (k : Int) < (C.length : Int) := by omega
                  have HS := Lib.hid hts
                  have hkb := H6.out.2.2.2
                  have hw1 : wrap64 ((k : Int) + 1) = (k : Int) + 1 := IntWalk.wrap64_in _ ⟨by omega, by omega⟩
                  have HMS : Hid (C.length - (k + 1) < C.length - k) := Nat.sub_lt_sub_left hlt (Nat.lt_succ_self k)
                  clear hcell hts hle hy hkb
                  go_wp2
                  go_roundw
                  case rel => exact ⟨k + 1, Nat.succ_le_of_lt hlt, by rw [HS.out]; simp, by simp [hw1], trivial⟩
                  case measure => exact meas_lt hw1 HMS.out
                · obtain rfl : k = C.length := by omega
                  have j2 : ¬ ((C.length : Int) < (C.length : Int)) := by omega
                  have hsm : (C.take C.length).sum = L.length := by rw [List.take_length]; exact H6.out.2.2.1
                  rw [hsm]
                  clear hlt hk
                  have hb6 := H6.out.1
                  have hs6 := hb6.size
                  have hB6 := (Chg.of_below (O := fun b => lo ≤ b) hb6)
                  have d2 := cell_regrown (ce0 (below_keep hb6 H5.out.2.2.2.1))
                  have d5 := cell_regrown (ce0 (below_keep hb6 H5.out.2.2.2.2.2.1))
                  have d11 := cell_regrown (ce0 (below_keep hb6 H5.out.2.2.2.2.2.2.1))
                  have hXZ := H5.out.2.1.below hb6
                  have hYZ := H5.out.2.2.1.below hb6
                  have cN := fun (v : Value) (dd : Nat) (os : Array Obj) => Calls.regrown_of ((cU v (Go.Sort.grow (redrawn wr dd) os)).mono fun e w' h => (⟨h.1, h.2 ▸ Below.refl _ _⟩ : e = .returned v ∧ Below (Go.Sort.grow (redrawn wr dd) os).heap.size (Go.Sort.grow (redrawn wr dd) os) w'))
                  have cX := fun (dd : Nat) (os : Array Obj) => Calls.regrown_of ((len_any (hXZ.below (below_regrown wr dd os))).mono fun e w' h => ⟨h.1, drew_b h.2⟩)
                  have cY := fun (dd : Nat) (os : Array Obj) => Calls.regrown_of ((len_any (hYZ.below (below_regrown wr dd os))).mono fun e w' h => ⟨h.1, drew_b h.2⟩)
                  have cA := fun (dd : Nat) (os : Array Obj) => Calls.regrown_of (alike_any (n := (L.length : Int)) (hXZ.below (below_regrown wr dd os)) (hYZ.below (below_regrown wr dd os)) (by omega) (by omega))
                  have HB6 := Lib.hid hB6
                  clear hXZ hYZ hb6 hB6 hs6
                  go_wp2_with fail
                  refine wp_region_S 33 (fun w' => ∃ p : Regrown, w' = Go.Sort.grow (redrawn wr p.d) p.os) ((0, false) :: (1, true) :: (2, false) :: (3, false) :: (4, false) :: (5, false) :: (6, false) :: (7, false) :: (8, false) :: (9, false) :: (10, false) :: (11, false) :: (12, false) :: (13, false) :: (14, false) :: (15, false) :: (16, false) :: (18, false) :: (17, true) :: (19, false) :: (20, false) :: (21, false) :: (22, false) :: (24, false) :: (23, true) :: (25, false) :: (26, false) :: (27, false) :: (28, false) :: (29, false) :: (30, false) :: (31, true) :: (32, false) :: []) (by kernel_rfl) (by kernel_rfl) ⟨⟨wr.drawn + 1, #[]⟩, by rw [Go.Sort.grow_empty]; rfl⟩ (fun hS => ?_)
                  repeat (first
                    | (refine S_st (by rfl) (fun K hK => ?_); go_simp; refine hK _ ?_; clear hK K)
                    | (refine S_hv hS (by rfl) (fun K hK => ?_); obtain ⟨p, hp⟩ := hS; rw [hp]; go_simp; (first | (with_reducible refine (cN _ _ _).mono ?_) | (with_reducible refine (cX _ _).mono ?_) | (with_reducible refine (cY _ _).mono ?_) | (with_reducible refine (cA _ _).mono ?_)); rintro _ ws ⟨rfl, hS⟩; refine hK.out _ _ hS (fun _ => ?_); clear hK K hp; clear p))
                  refine S_nil ?_
                  simp only [List.drop_succ_cons, List.drop_zero]
                  obtain ⟨p, hp⟩ := hS
                  have hbz := below_regrown wr p.d p.os
                  rw [← hp] at hbz
                  have e4 := below_keep hbz (below_keep H6.out.1 H5.out.2.2.2.2.1)
                  have hDz := below_keep hbz (below_keep H6.out.1 H5.out.2.2.2.2.2.2.2)
                  have f4 := frozen_of_heap (i := 0) e4
                  have c4 := ce0 e4
                  have HZ := Lib.hid (And.intro hbz (And.intro e4 hDz))
                  clear hbz hDz e4 hp d2 d5 d11 cN cX cY cA
                  clear p
                  go_wp2
                  refine nrm_mk ?_
                  go_wp2
                  obtain ⟨Z, hZ, hcZ⟩ : ∃ Z, ws.setCell ⟨w.heap.size + 1, 0, none⟩ (.bool true) = Z ∧ Chg (· = w.heap.size + 1) ws Z := ⟨_, rfl, Chg.set _ rfl⟩
                  rw [hZ]
                  obtain ⟨hbz, e4, hDz⟩ := HZ.out
                  have hxZ := heap_set_cells (i := 0) (.bool true) e4
                  rw [hZ] at hxZ
                  have hD1 := hcZ.obj hDz (by omega)
                  have hg1 := chg_putObj6 Z wE.heap.size (.deferred none)
                  refine ⟨by simp, .inl ⟨_, _, rfl, run_takeDeferred hD1, ?_⟩⟩
                  have y1 := cell_of_heap (hg1.obj hxZ (by omega)) (i := 0) (v := .bool true) (by rfl)
                  have hB0 := HXY.out.2.2.2.2.1
                  have hs0 := hB0.size
                  have hb6 := H6.out.1
                  have hs6 := hb6.size
                  have hs5 := H5.out.1.size
                  have hsz := hbz.size
                  have hcQ := ((H5.out.1.trans (Chg.of_below (O := fun b => lo ≤ b) hb6) (fun _ h _ => h)).trans (Chg.of_below (O := fun b => lo ≤ b) hbz) (fun _ h _ => h))
                  have hQ := (((hB0.trans (hcQ.belowLo6 (by omega) (fun k hk => by omega))).trans (hcZ.belowLo6 (by omega) (fun k hk => by omega))).trans (hg1.belowLo6 (by have := hcZ.size; omega) (fun k hk => by omega)))
                  exact ⟨.bool true, by simp [results, Try.results3, go_sem, y1], rfl, hQ⟩

end Go.Proofs.Ytljobojdcnhecaa
