/- Texts of this claim, one behind the other: IcO, IbE, IbG, IaX, IaY, IaZ. -/
import Derived.Test.YtljobojdcnhecaaFm12
import Derived.Test.YtljobojdcnhecaaBulk
import Derived.Deep.SlicePairs
import Derived.Deep.Grids
import Derived.Test.YtljobojdcnhecaaFm10
import Derived.Deep.LoopGhost
import Derived.Shelf.SlSorted.Search
import Derived.Test.YtljobojdcnhecaaFm11
set_option linter.unusedSimpArgs false
set_option linter.unusedVariables false
set_option maxRecDepth 1000000
set_option maxHeartbeats 4000000
namespace Go.Proofs.Ytljobojdcnhecaa
/- What is handed in, opened: entries (for an index). -/
open Go.RowKit Go.Maps Go.ChangeShapes Go.WideShapes Go.Deep

theorem row_of_cellsC {w : World} {a : Addr} {n : Nat} {V : Nat → Value} (h : ∀ i, i < n → w.cell? (a.add i) = some (V i)) : RowAt w (some a) ((List.range n).map V) := fun hne => by
  have hn : 0 < n := by
    rcases Nat.eq_zero_or_pos n with h0 | h0
    · subst h0; simp at hne
    · exact h0
  obtain ⟨b, off, spot⟩ := a
  have h0 := World.cell?_spot (h 0 hn)
  have hspot : spot = none := by simpa [Addr.add] using h0
  subst hspot
  refine ⟨b, off, rfl, fun j u hu => ?_⟩
  rw [List.getElem?_map] at hu
  obtain ⟨i, hi, rfl⟩ := Option.map_eq_some_iff.1 hu
  obtain ⟨hj, hij⟩ := List.getElem?_eq_some_iff.1 hi
  simp at hj hij
  subst hij
  rw [← Go.WideShapes.add_plain]
  exact h j hj
section
variable {H : Type} {enc : TypeId × Value → H} {w : World} {base : Nat}
theorem op_bytes {fuel : Nat} {v : Value} {x : DataW H × List MemPlace} (h : DataW.trod enc Try.prog w base (fun _ => true) true fuel 30 [v] = some x) :
    ∃ a c, ∃ l : List UInt8, v = .slice a l.length c ∧ (a = none → c = 0) ∧ RowAt w a (l.map bv) ∧ l.length + 1 ≤ Rows.uptoBulk x.1 := by
  rcases open_slice1 Try.underlying30 (by kernel_rfl) h with ⟨hcs, rfl⟩ | ⟨a, len, cap, m, n, V, D, Pl, hcs, hb, hl, hm, hmm, rfl, hel⟩
  · simp only [List.cons.injEq, and_true] at hcs
    subst hcs
    exact ⟨none, 0, [], rfl, fun _ => rfl, RowAt.nil _ _, by simp [Rows.uptoBulk]⟩
  · simp only [List.cons.injEq, and_true] at hcs
    subst hcs
    simp only [if_true] at hmm
    subst hmm
    obtain ⟨B, hB⟩ := choose_lt (α := UInt8) (p := fun i b => V i = bv b) (fun i hi => by
      obtain ⟨c, h1, _, h3⟩ := DataW.trod_int Try.underlying5 (hel i hi).2
      have h4 := u8_of_wf h3
      simp only [List.cons.injEq, and_true] at h1
      refine ⟨UInt8.ofNat c.toNat, ?_⟩
      rw [h1]
      unfold bv
      congr 1
      rw [UInt8.toNat_ofNat']
      omega)
    refine ⟨some a, m, (List.range len).map B, by simp, fun h => (by cases h), ?_, ?_⟩
    · have hr := row_of_cellsC (w := w) (a := a) (n := len) (V := fun i => bv (B i)) (fun i hi => by rw [(hel i (by omega)).1, hB i (by omega)])
      rw [List.map_map]
      exact hr
    · have := bulks.slice_le ((List.range len).map D) ((List.range (m - len)).map fun j => D (len + j))
      simp at this
      simp
      omega

theorem op_bytesC {fuel : Nat} {v : Value} {x : DataW H × List MemPlace} (h : DataW.trod enc Try.prog w base (fun _ => true) true fuel 30 [v] = some x) :
    ∃ a c, ∃ l : List UInt8, v = .slice a l.length c ∧ l.length ≤ c ∧ (a = none → c = 0) ∧ RowAt w a (l.map bv) := by
  rcases open_slice1 Try.underlying30 (by kernel_rfl) h with ⟨hcs, rfl⟩ | ⟨a, len, cap, m, n, V, D, Pl, hcs, hb, hl, hm, hmm, rfl, hel⟩
  · simp only [List.cons.injEq, and_true] at hcs
    subst hcs
    exact ⟨none, 0, [], rfl, Nat.le_refl _, fun _ => rfl, RowAt.nil _ _⟩
  · simp only [List.cons.injEq, and_true] at hcs
    subst hcs
    simp only [if_true] at hmm
    subst hmm
    obtain ⟨B, hB⟩ := choose_lt (α := UInt8) (p := fun i b => V i = bv b) (fun i hi => by
      obtain ⟨c, h1, _, h3⟩ := DataW.trod_int Try.underlying5 (hel i hi).2
      have h4 := u8_of_wf h3
      simp only [List.cons.injEq, and_true] at h1
      refine ⟨UInt8.ofNat c.toNat, ?_⟩
      rw [h1]
      unfold bv
      congr 1
      rw [UInt8.toNat_ofNat']
      omega)
    refine ⟨some a, m, (List.range len).map B, by simp, by simp; omega, fun h => (by cases h), ?_⟩
    have hr := row_of_cellsC (w := w) (a := a) (n := len) (V := fun i => bv (B i)) (fun i hi => by rw [(hel i (by omega)).1, hB i (by omega)])
    rw [List.map_map]
    exact hr
/-- bytes, with their room and their bulk -/
theorem op_bytesB {fuel : Nat} {v : Value} {x : DataW H × List MemPlace} (h : DataW.trod enc Try.prog w base (fun _ => true) true fuel 30 [v] = some x) :
    ∃ a c, ∃ l : List UInt8, v = .slice a l.length c ∧ l.length ≤ c ∧ (a = none → c = 0) ∧ RowAt w a (l.map bv) ∧ l.length + 1 ≤ Rows.uptoBulk x.1 := by
  obtain ⟨a, c, l, rfl, h1, h2, h3⟩ := op_bytesC h
  obtain ⟨a', c', l', e, _, _, h4⟩ := op_bytes h
  simp only [Value.slice.injEq] at e
  exact ⟨a, c, l, rfl, h1, h2, h3, by rw [e.2.1]; exact h4⟩
theorem row_lt {w : World} {a : Option Addr} {l : List UInt8} (h : RowAt w a (l.map bv)) : ∀ x, a = some x → l ≠ [] → x.block < w.heap.size := fun x hx hne => by
  obtain ⟨b, off, e, hc⟩ := h (fun e => hne (List.map_eq_nil_iff.1 e))
  rw [e] at hx
  cases hx
  cases l with
  | nil => exact absurd rfl hne
  | cons y l => exact cell_lt (hc 0 (bv y) rfl)
/-- entries -/
theorem op_entsR {fuel : Nat} {v : Value} {x : DataW H × List MemPlace} (h : DataW.trod enc Try.prog w base (fun _ => true) true fuel 22 [v] = some x) :
    ∃ a c, ∃ L : List (List UInt8), v = .slice a L.length c ∧ EntsR (fun _ => True) w a L ∧ L.length ≤ c ∧ L.length ≤ maxLen ∧ L.length + 1 ≤ Rows.uptoBulk x.1 ∧ ∀ e ∈ L, e.length + 1 ≤ Rows.uptoBulk x.1 := by
  rcases open_slice1 Try.underlying22 (by kernel_rfl) h with ⟨hcs, rfl⟩ | ⟨a, len, cap, m, n, V, D, Pl, hcs, hb, hl, hm, hmm, rfl, hel⟩
  · simp only [List.cons.injEq, and_true] at hcs
    subst hcs
    exact ⟨none, 0, [], rfl, fun h => absurd rfl h, Nat.le_refl _, Nat.zero_le _, by simp [Rows.uptoBulk], fun e he => by cases he⟩
  · simp only [List.cons.injEq, and_true] at hcs
    subst hcs
    simp only [if_true] at hmm
    subst hmm
    obtain ⟨B, hB⟩ := choose_lt (α := List UInt8) (p := fun i b => ∃ ua uc, V i = .slice ua b.length uc ∧ b.length ≤ uc ∧ (ua = none → uc = 0) ∧ RowAt w ua (b.map bv) ∧ b.length + 1 ≤ Rows.uptoBulk (D i)) (fun i hi => by
      obtain ⟨ua, uc, l, h1, h2, h3, h4, h5⟩ := op_bytesB (hel i hi).2
      exact ⟨l, ua, uc, h1, h2, h3, h4, h5⟩)
    have hall : Rows.uptoBulkAll ((List.range len).map D) + 1 ≤ Rows.uptoBulk (DataW.slice ((List.range len).map D) ((List.range (m - len)).map fun j => D (len + j))) := by
      simp only [Rows.uptoBulk]; omega
    have hpart : ∀ i, i < len → Rows.uptoBulk (D i) ≤ Rows.uptoBulkAll ((List.range len).map D) := fun i hi => bulks.part_le (List.mem_map.2 ⟨i, List.mem_range.2 hi, rfl⟩)
    refine ⟨some a, m, (List.range len).map B, by simp, fun _ => ?_, by simp; omega, by simp; omega, ?_, fun e he => ?_⟩
    · obtain ⟨b, off, spot⟩ := a
      by_cases h0 : 0 < len
      · have h1 := World.cell?_spot (hel 0 (by omega)).1
        have hspot : spot = none := by simpa [Addr.add] using h1
        subst hspot
        refine ⟨b, off, rfl, trivial, by have := cell_lt (hel 0 (by omega)).1; simpa [Addr.add] using this, fun i d hd => ?_⟩
        rw [List.getElem?_map] at hd
        obtain ⟨j, hj, rfl⟩ := Option.map_eq_some_iff.1 hd
        obtain ⟨hj1, hj2⟩ := List.getElem?_eq_some_iff.1 hj
        simp at hj1 hj2
        subst hj2
        obtain ⟨ua, uc, h1, h2, h3, h4, _⟩ := hB i (by omega)
        refine ⟨ua, uc, ?_, h4, h2, h3, fun x hx hne => ⟨trivial, row_lt h4 x hx hne⟩⟩
        have := (hel i (by omega)).1
        rw [Go.WideShapes.add_plain] at this
        rw [this, h1]
      · rename_i hne
        have : len = 0 := by omega
        subst this
        exact absurd rfl hne
    · have := bulks.slice_le ((List.range len).map D) ((List.range (m - len)).map fun j => D (len + j))
      simp at this
      simp
      omega
    · obtain ⟨i, hi, rfl⟩ := List.mem_map.1 he
      have hi' := List.mem_range.1 hi
      obtain ⟨ua, uc, _, _, _, _, h5⟩ := hB i (by omega)
      have := hpart i hi'
      show (B i).length + 1 ≤ Rows.uptoBulk (DataW.slice _ _)
      omega
end

/- Find: small walks: slices.Clone of bytes, ContainsFunc with Add's closure. -/
open Go.RowKit Go.Maps

theorem cloneB_any {w : World} {a : Option Addr} {c : Nat} {l : List UInt8} (hrow : RowAt w a (l.map bv)) (hnil : a = none → c = 0) (hl : l.length ≤ 1099511627776) :
    Calls Try.prog 25 #[.slice a l.length c] w fun e w' => ∃ U, e = .returned U ∧ BytesR (fun x => w.heap.size ≤ x) w' U l ∧ Below w.heap.size w w' := by
  have hmax : maxLen = 9223372036854775807 := rfl
  obtain ⟨i0, hi, hz0, hz1, hz2⟩ := info_parts Try.info5
  have hq : ∀ (w : World) (a : Option Addr) (n c n' c' : Nat), (binOp .eql 30 (.slice a n c) (.slice none n' c')).run Try.prog w = .ok (.bool a.isNone) w := fun w a n c n' c' => Lib.run_eql_slice_nil w _ _ a n c n' c' Try.underlying30
  cases a with
  | none =>
    obtain rfl := hnil rfl
    have hl0 : l = [] := List.map_eq_nil_iff.1 (row_nil hrow)
    subst hl0
    go_enter Try.func25, Try.ntmps25
    go_wp2
    go_ret
    exact ⟨_, rfl, ⟨World.ownsRow_nil _ _ _ _, fun b h => (by cases h)⟩, Below.refl _ _⟩
  | some x =>
    have H1 := Lib.hid (hrow.below (below_alloc w (.cells #[] 5)))
    clear hrow
    go_enter Try.func25, Try.ntmps25
    go_wp2_with (at_builtin; refine wpList_append_anyK _ rfl (.tmp 5) (.tmp 6) 30 rfl w.heap.size 5 i0 (.int .u8 0) 1 1 Try.underlying30 hi hz0 hz1 hz2 rfl (by decide) _ 0 [] rfl (World.ownsRow_made w #[] 0 (Nat.le_refl _) (Nat.zero_le _) (by simp)) (some x) l.length c (l.map bv) rfl (by simp) hnil H1.out bytes_one' (by omega) (by omega) (by rw [World.size_alloc]; omega) ?_; intro v1 w2 hv1 hg1)
    have hb2 : Below w.heap.size w w2 := (below_alloc w _).grown hg1 (by rw [World.size_alloc]; omega) (fun k hk => ((World.ownsRow_made (base := w.heap.size) w #[] 0 (e := 5) (size := 1) (Nat.le_refl _) (Nat.zero_le _) (by simp)).lt k hk).1)
    obtain ⟨a1, c1, rfl⟩ := row_slice hv1
    rw [Nat.zero_add, List.nil_append] at hv1
    have H2 := Lib.hid (And.intro hv1 hb2)
    clear hv1 hb2 hg1
    go_wp2
    go_ret
    exact ⟨_, rfl, ⟨by rw [Nat.zero_add]; exact row_lo H2.out.1, fun b hb => (row_blk H2.out.1 (by rw [Nat.zero_add] at hb; exact hb)).1⟩, H2.out.2⟩
theorem add1_any (x : Value) (n c : Nat) (a : Option Addr) (hx : x = .slice a n c) (w : World) : Calls Try.prog 23 (#[x] ++ #[]) w fun e w' => e = .returned (.bool (decide (4096 < n))) ∧ w' = w := by
  subst hx
  have e : decide ((4096 : Int) < (n : Int)) = decide (4096 < n) := by rw [decide_eq_decide]; omega
  go_enter Try.func23, Try.ntmps23
  go_wp2
  go_ret
  exact ⟨by first | rfl | (rw [e]; rfl) | (simp), rfl⟩
theorem index_any {R : Nat → Prop} {w : World} {a : Option Addr} {c : Nat} {L : List (List UInt8)} (h : EntsR R w a L) (hl : L.length ≤ 1099511627776) :
    Calls Try.prog 36 #[.slice a L.length c, .func (.func 23) #[] #[]] w fun e w' => ∃ z : Int, e = .returned (.int .i64 z) ∧ decide (0 ≤ z) = L.any (fun l => decide (4096 < l.length)) ∧ ∃ q, w' = w.drewN q := by
  have eg : ∀ args w, (callFunc 23 args).run Try.prog w = .ok (.enter 23 args) w := fun args w => by rfl
  have HE := Lib.hid h
  clear h
  go_enter Try.func36, Try.ntmps36
  go_wp2
  go_loopw [8] (fun i wr => ∃ k : Nat, k ≤ L.length ∧ i = .int .i64 k ∧ Hid (∀ l ∈ L.take k, l.length ≤ 4096) ∧ ∃ q, wr = w.drewN q) (fun i _ => L.length - (RowKit.intOf i).toNat)
  case atStart => exact ⟨0, by omega, rfl, (fun l hl => by simp at hl), 0, rfl⟩
  case round =>
    obtain ⟨k, hk, rfl, HK, q, rfl⟩ := hrel
    by_cases hlt : k < L.length
    · obtain ⟨b, off, rfl, _, _, hc⟩ := HE.out (fun e => by rw [e] at hlt; simp at hlt)
      obtain ⟨ua, uc, h1, _⟩ := hc k L[k] (List.getElem?_eq_getElem hlt)
      have hcell : ∀ m, (w.drewN m).cell? ⟨b, off + k, none⟩ = some (.slice ua (L[k]).length uc) := fun m => h1
      have hk2 : (k : Int) < (L.length : Int) := by omega
      by_cases hlong : 4096 < (L[k]).length
      · have hA := fun W => add1_any _ (L[k]).length uc ua rfl W
        rw [decide_eq_true hlong] at hA
        have HL := Lib.hid hlong
        clear hlong h1 hc
        go_wp2_with (go_at_fn 23; refine (hA _).mono ?_; rintro e w' ⟨rfl, rfl⟩)
        go_ret
        exact ⟨(k : Int), rfl, (by
          have : L.any (fun l => decide (4096 < l.length)) = true := List.any_eq_true.2 ⟨L[k], List.getElem_mem hlt, by simpa using HL.out⟩
          rw [this]; simp), _, rfl⟩
      · have hA := fun W => add1_any _ (L[k]).length uc ua rfl W
        rw [decide_eq_false hlong] at hA
        have HL := Lib.hid hlong
        clear hlong h1 hc
        go_wp2_with (go_at_fn 23; refine (hA _).mono ?_; rintro e w' ⟨rfl, rfl⟩)
        go_roundw
        case rel => exact ⟨k + 1, by omega, by go_num, (fun l hl => by
          rw [List.take_add_one, List.getElem?_eq_getElem hlt] at hl
          rcases List.mem_append.1 hl with hl | hl
          · exact HK.out l hl
          · simp at hl; subst hl; have := HL.out; omega), _, rfl⟩
        case measure => simp [RowKit.intOf]; omega
    · have e : k = L.length := by omega
      subst e
      go_wp2
      go_ret
      refine ⟨-1, rfl, ?_, _, rfl⟩
      have : L.any (fun l => decide (4096 < l.length)) = false := by
        rw [List.any_eq_false]
        intro l hl
        have := HK.out l (by rw [List.take_length]; exact hl)
        simp; omega
      rw [this]; rfl
theorem contains_any {R : Nat → Prop} {w : World} {a : Option Addr} {c : Nat} {L : List (List UInt8)} (h : EntsR R w a L) (hl : L.length ≤ 1099511627776) :
    Calls Try.prog 22 #[.slice a L.length c, .func (.func 23) #[] #[]] w fun e w' => e = .returned (.bool (L.any (fun l => decide (4096 < l.length)))) ∧ ∃ q, w' = w.drewN q := by
  have cI := index_any h hl (c := c)
  clear h
  go_enter Try.func22, Try.ntmps22
  go_wp2_with (refine cI.mono ?_; rintro _ w1 ⟨z, rfl, hz, q, rfl⟩)
  go_ret
  exact ⟨by rw [← hz]; rfl, q, rfl⟩

/- Find: Len, Leaf. -/

theorem results_two {P : Program} {fn : Func} {p q : Tmp} {ty : TypeId} (h : fn.results = #[.cell p ty, .tmp q]) (tmps : Array Value) (w : World) (g : Nat) (t : TypeId) (cs : Array Value) (fr : Nat × Nat) (d : TypeDesc) (v : Value)
    (hp : tmps.getD p undef = .pointer (some ⟨g, 0, none⟩)) (hq : tmps.getD q undef = v) (hg : w.heap[g]? = some (.cells cs t fr))
    (hu : P.underlying ty = some d) (hd : (match d with | .struct _ | .array _ _ => true | _ => false) = true) (hi : (P.info? ty).map (·.size) = some cs.size) :
    (results fn tmps).run P w = .ok (.tuple #[.agg cs, v]) w := by
  have hp' : tmps[p]?.getD undef = .pointer (some ⟨g, 0, none⟩) := by simpa using hp
  have hq' : tmps[q]?.getD undef = v := by simpa using hq
  simp [results, h, hp', hq', asAddr, run_loadVar_row w g t ty cs fr d hg hu hd hi]
theorem len_any {F G : Nat → Prop} {w : World} {bx : Nat} {E : List (List UInt8)} (h : XAt F G w bx E) : Calls Try.prog 14 #[.pointer (some ⟨bx, 0, none⟩)] w fun e w' => e = .returned (.int .i64 (E.length : Nat)) ∧ ∃ q, w' = w.drewN q := by
  obtain ⟨ve, vo, vm, hX⟩ := h
  have c0 := ce0 hX.cell
  obtain ⟨ea, ec, rfl, _⟩ := hX.ents.read
  clear hX
  go_enter Try.func14, Try.ntmps14
  go_wp2
  go_ret
  exact ⟨rfl, 0, rfl⟩
theorem len_nil (w : World) : Calls Try.prog 14 #[.pointer none] w fun e w' => e = .returned (.int .i64 0) ∧ ∃ q, w' = w.drewN q := by
  go_enter Try.func14, Try.ntmps14
  go_wp2
  go_ret
  exact ⟨rfl, 0, rfl⟩
def zeros : List UInt8 := List.replicate 32 0
/-- Leaf's answer -/
def leafR (E : List (List UInt8)) (n : Int) : List UInt8 × Int := if 0 ≤ n ∧ n < E.length then (leaf (E.getD n.toNat []), 0) else (zeros, 4)
theorem leaf_nil (w : World) (n : Int) : Calls Try.prog 10 #[.pointer none, .int .i64 n] w fun e w' => e = .returned (.tuple #[hashV zeros, .int .i64 1]) ∧ Below w.heap.size w w' := by
  obtain ⟨w1, hw1, hb1, hz1, hx1⟩ := al1 w zero32 33
  have HE := Lib.hid (And.intro hx1 hb1)
  have HR := Lib.hid (hash_ret (l := zeros) hx1 hb1 (Nat.le_refl _))
  unfold zero32 at hw1
  clear hb1 hx1
  go_enter Try.func10, Try.ntmps10
  go_wp2_with (refine wpList_store_row rfl _ _ _ rfl w.heap.size (zeros.map bv).toArray (by rfl) (by rfl) _ _ HE.out.1 (by kernel_rfl) (by rfl) bytes_one ?_)
  exact bodyPost_ret (results_two (by rfl) _ _ w.heap.size _ (zeros.map bv).toArray _ _ _ (by rfl) (by rfl) HR.out.1 Try.underlying33 (by kernel_rfl) (by kernel_rfl)) rfl ⟨rfl, HR.out.2⟩
theorem leaf_any {F G : Nat → Prop} {w : World} {bx : Nat} {E : List (List UInt8)} (h : XAt F G w bx E) (hs : ∀ l ∈ E, l.length ≤ 4096) (n : Int) (hn : -9223372036854775808 ≤ n ∧ n < 9223372036854775808) :
    Calls Try.prog 10 #[.pointer (some ⟨bx, 0, none⟩), .int .i64 n] w fun e w' => e = .returned (.tuple #[hashV (leafR E n).1, .int .i64 (leafR E n).2]) ∧ Below w.heap.size w w' := by
  obtain ⟨w1, hw1, hb1, hz1, hx1⟩ := al1 w zero32 33
  obtain ⟨ve, vo, vm, hX0⟩ := h
  have hX := hX0.below hb1
  have c0 := ce0 hX.cell
  obtain ⟨ea, ec, rfl, hec, hen, hread⟩ := hX.ents.read
  have HE := Lib.hid (And.intro hx1 hb1)
  unfold zero32 at hw1
  have hz1' : w.heap.size < w1.heap.size := by omega
  by_cases h1 : 0 ≤ n ∧ n < E.length
  · obtain ⟨h2, h3⟩ := h1
    obtain ⟨k, rfl⟩ : ∃ k : Nat, n = (k : Int) := ⟨n.toNat, by omega⟩
    have hk : k < E.length := by omega
    obtain ⟨b, off, rfl, _, _, hc⟩ := hread (fun e => by rw [e] at hk; simp at hk)
    obtain ⟨ua, uc, u1, u2, u3, u4, u5⟩ := hc k E[k] (List.getElem?_eq_getElem hk)
    have e : leafR E k = (leaf E[k], 0) := by
      unfold leafR
      rw [if_pos ⟨h2, h3⟩]
      simp [List.getD, List.getElem?_eq_getElem hk]
    rw [e]
    have hbig := hs E[k] (List.getElem_mem hk)
    have cL := hashLeaf_any (w := w1) u2 u3 (fun x hx hne => (u5 x hx hne).2) (by omega)
    generalize E[k] = l at *
    have d1 : decide ((k : Int) < 0) = false := decide_eq_false (by omega)
    have d2 : decide ((E.length : Int) ≤ (k : Int)) = false := decide_eq_false (by omega)
    have HZ : Hid (((leaf l).map bv).toArray.size = 32) := by show _ = _; rw [List.size_toArray, List.length_map, leaf_len]
    unfold hashV at cL ⊢
    clear hX hX0 hread hc u2 u3 u4 u5 hb1 hx1 hs hbig e
    go_enter Try.func10, Try.ntmps10
    go_wp2_with fail
    ((with_reducible refine cL.mono ?_); rintro _ w6 ⟨rfl, hb6⟩)
    have HR := Lib.hid (hash_ret (l := leaf l) (below_keep hb6 HE.out.1) (HE.out.2.trans (hb6.mono HE.out.2.size)) (Nat.le_refl _))
    have H6 := Lib.hid hb6
    clear hb6
    go_wp2_with (refine wpList_store_row rfl _ _ _ rfl w.heap.size ((leaf l).map bv).toArray (by rfl) (by rfl) _ _ (below_keep H6.out HE.out.1) (by rw [HZ.out]; kernel_rfl) (by rw [HZ.out]; rfl) bytes_one ?_)
    exact bodyPost_ret (results_two (by rfl) _ _ w.heap.size _ ((leaf l).map bv).toArray _ _ _ (by rfl) (by rfl) HR.out.1 Try.underlying33 (by kernel_rfl) (by rw [HZ.out]; kernel_rfl)) rfl ⟨rfl, HR.out.2⟩
  · have e : leafR E n = (zeros, 4) := by unfold leafR; rw [if_neg h1]
    rw [e]
    have HR := Lib.hid (hash_ret (l := zeros) hx1 hb1 (Nat.le_refl _))
    clear hX hX0 hread hb1 hx1 hs e
    by_cases h2 : n < 0
    · have d1 : decide (n < 0) = true := decide_eq_true h2
      go_enter Try.func10, Try.ntmps10
      go_wp2_with (refine wpList_store_row rfl _ _ _ rfl w.heap.size (zeros.map bv).toArray (by rfl) (by rfl) _ _ HE.out.1 (by kernel_rfl) (by rfl) bytes_one ?_)
      exact bodyPost_ret (results_two (by rfl) _ _ w.heap.size _ (zeros.map bv).toArray _ _ _ (by rfl) (by rfl) HR.out.1 Try.underlying33 (by kernel_rfl) (by kernel_rfl)) rfl ⟨rfl, HR.out.2⟩
    · have h3 : (E.length : Int) ≤ n := by omega
      have d1 : decide (n < 0) = false := decide_eq_false h2
      have d2 : decide ((E.length : Int) ≤ n) = true := decide_eq_true h3
      go_enter Try.func10, Try.ntmps10
      go_wp2_with (refine wpList_store_row rfl _ _ _ rfl w.heap.size (zeros.map bv).toArray (by rfl) (by rfl) _ _ HE.out.1 (by kernel_rfl) (by rfl) bytes_one ?_)
      exact bodyPost_ret (results_two (by rfl) _ _ w.heap.size _ (zeros.map bv).toArray _ _ _ (by rfl) (by rfl) HR.out.1 Try.underlying33 (by kernel_rfl) (by kernel_rfl)) rfl ⟨rfl, HR.out.2⟩

/- Find: sort.Search with any closure that makes new memory alone. -/

/-- sort.Search: how many places below n are still false, of a closure that is false first and true then -/
theorem search_any (g : Nat) (cb : Array Value) (n : Nat) (p : Nat → Bool) (w : World) (hsz : n < 4611686018427387904)
    (eg : ∀ args w, (callFunc g args).run Try.prog w = .ok (.enter g args) w)
    (hf : ∀ (W : World) (i : Nat), Below w.heap.size w W → i < n → Calls Try.prog g (#[.int .i64 i] ++ cb) W fun e w' => e = .returned (.bool (p i)) ∧ Below W.heap.size W w')
    (hmono : ∀ a b, a ≤ b → b < n → p a = true → p b = true) :
    Calls Try.prog 40 #[.int .i64 n, .func (.func g) #[] cb] w fun e w' => e = .returned (.int .i64 ((List.range n).countP (fun i => !p i) : Nat)) ∧ Below w.heap.size w w' := by
  have HF := Lib.hid hf
  have M := Lib.hid hmono
  clear hf hmono
  obtain ⟨cnt, hcnt⟩ : ∃ z, (List.range n).countP (fun i => !p i) = z := ⟨_, rfl⟩
  have CN := Lib.hid hcnt
  rw [hcnt]
  clear hcnt
  go_enter Try.func40, Try.ntmps40
  go_wp2
  go_loopg [5, 6] n (fun kx s5 s6 wr => ∃ (lo hi : Nat), s5 = .int .i64 lo ∧ s6 = .int .i64 hi ∧ lo ≤ hi ∧ hi ≤ n ∧ hi - lo ≤ kx ∧ Below w.heap.size w wr ∧
    ((∀ t, t < lo → p t = false) ∧ (∀ t, hi ≤ t → t < n → p t = true)))
  case atStart => exact ⟨0, n, rfl, rfl, Nat.zero_le _, Nat.le_refl _, by omega, Below.refl _ _, fun t ht => absurd ht (Nat.not_lt_zero _), fun t h1 h2 => by omega⟩
  case round =>
    obtain ⟨lo, hi, rfl, rfl, hlh, hin, hg, hbw, I0⟩ := hrel
    have I := Lib.hid I0
    clear I0
    by_cases hlt : lo < hi
    · have hc := HF.out wr ((lo + hi) / 2) hbw (by omega)
      rw [show (((lo + hi) / 2 : Nat) : Int) = ((lo : Int) + (hi : Int)) / 2 by omega] at hc
      cases hp : p ((lo + hi) / 2) <;> rw [hp] at hc
      · have HP := Lib.hid hp
        clear hp
        go_wp2_with (go_at_fn g; refine hc.mono ?_; rintro e w' ⟨rfl, hb'⟩)
        go_roundg (hi - ((lo + hi) / 2 + 1))
        case measure => omega
        case rel =>
          exact ⟨(lo + hi) / 2 + 1, hi, by rw [show ((lo : Int) + (hi : Int)) / 2 + 1 = (((lo + hi) / 2 + 1 : Nat) : Int) by omega], rfl, by omega, hin, Nat.le_refl _, bthen hbw hb', fun t ht => (by
            cases h : p t with
            | false => rfl
            | true => have := M.out t ((lo + hi) / 2) (by omega) (by omega) h; rw [HP.out] at this; cases this), I.out.2⟩
      · have HP := Lib.hid hp
        clear hp
        go_wp2_with (go_at_fn g; refine hc.mono ?_; rintro e w' ⟨rfl, hb'⟩)
        go_roundg ((lo + hi) / 2 - lo)
        case measure => omega
        case rel =>
          exact ⟨lo, (lo + hi) / 2, rfl, by rw [show ((lo : Int) + (hi : Int)) / 2 = (((lo + hi) / 2 : Nat) : Int) by omega], by omega, by omega, Nat.le_refl _, bthen hbw hb', I.out.1, fun t ht htn => M.out ((lo + hi) / 2) t ht htn HP.out⟩
    · obtain rfl : hi = lo := by omega
      have ecnt : cnt = hi := by
        rw [← CN.out]
        have hr : ∀ t, t < n → (List.range n)[t]! = t := fun t ht => by rw [getElem!_pos _ t (by simpa using ht)]; simp
        refine Lib.countP_boundary _ (List.range n) hi (by simpa using hin) (fun t ht => ?_) (fun t h3 h4 => ?_)
        · rw [hr t (by omega), I.out.1 t ht]; rfl
        · rw [hr t (by simpa using h4), I.out.2 t h3 (by simpa using h4)]; rfl
      subst ecnt
      go_wp2
      go_ret
      exact ⟨rfl, hbw⟩

/- Find: the place of a hash in the order. -/

theorem cell_below {w w' : World} (hb : Below w.drew.heap.size w.drew w') {a : Addr} {v : Value} (h : w.cell? a = some v) : w'.cell? a = some v := (hb.cell (World.block_lt_of_cell? _ _ h)).trans h
theorem range_below {w w' : World} (hb : Below w.drew.heap.size w.drew w') {g o : Nat} {vs : List Value} (h : w.rangeAt g o vs) : w'.rangeAt g o vs := fun j v hj => cell_below hb (h j v hj)
theorem at1_any {w : World} {bx gx gh g k n c : Nat} {y h : List UInt8} (hxc : w.cell? ⟨gx, 0, none⟩ = some (.pointer (some ⟨bx, 0, none⟩))) (hoc : w.cell? ⟨bx, 1, none⟩ = some (.slice (some ⟨g, 0, none⟩) n c)) (hr : w.rangeAt g (k * 33) (y.map bv)) (hh : w.rangeAt gh 0 (h.map bv)) (hy : y.length = 32) (hl : h.length = 32) (hk : k < n) :
    Calls Try.prog 41 (#[.int .i64 (k : Int)] ++ #[.pointer (some ⟨gx, 0, none⟩), .pointer (some ⟨gh, 0, none⟩)]) w fun e w' => e = .returned (.bool (decide (0 ≤ cmpB y h))) ∧ Below w.heap.size w w' := by
  have hly : (y.map bv).length = 32 := by rw [List.length_map, hy]
  have hlh : (h.map bv).length = 32 := by rw [List.length_map, hl]
  have HX := Lib.hid (And.intro hr (And.intro hh (And.intro hly hlh)))
  have cC := fun w => compare_any (w := w) hy hl
  have hkn : (k : Int) < (n : Int) := by omega
  unfold hashV at cC
  clear hr hh hly hlh hy hl
  go_enter Try.func41, Try.ntmps41
  go_wp2_with fail
  refine wp_region_held_drew (S := fun w' => w'.cell? ⟨gx, 0, none⟩ = some (.pointer (some ⟨bx, 0, none⟩)) ∧ w'.cell? ⟨bx, 1, none⟩ = some (.slice (some ⟨g, 0, none⟩) n c) ∧ w'.rangeAt g (k * 33) (y.map bv) ∧ w'.rangeAt gh 0 (h.map bv)) (by kernel_rfl) ⟨hxc, hoc, HX.out.1, HX.out.2.1⟩ (fun hHeld => ?_)
  refine tk 0 ?_ hHeld (fun w' hSw => ?_) ?_; rotate_left
  · (have h1 := hSw.1; have h2 := hSw.2.1; go_simp; all_goals (with_reducible rfl))
  (try simp only [Act.put, Zz])
  refine tk 1 ?_ hHeld (fun w' hSw => ?_) ?_; rotate_left
  · (have h1 := hSw.1; have h2 := hSw.2.1; go_simp; all_goals (with_reducible rfl))
  (try simp only [Act.put, Zz])
  refine tk 2 ?_ hHeld (fun w' hSw => ?_) ?_; rotate_left
  · (have h1 := hSw.1; have h2 := hSw.2.1; go_simp; all_goals (with_reducible rfl))
  (try simp only [Act.put, Zz])
  refine tk 3 ?_ hHeld (fun w' hSw => ?_) ?_; rotate_left
  · (have h1 := hSw.1; have h2 := hSw.2.1; go_simp; all_goals (with_reducible rfl))
  (try simp only [Act.put, Zz])
  refine tk 4 ?_ hHeld (fun w' hSw => ?_) ?_; rotate_left
  · (have h1 := hSw.1; have h2 := hSw.2.1; go_simp; all_goals (with_reducible rfl))
  (try simp only [Act.put, Zz])
  refine tk 5 ?_ hHeld (fun w' hSw => ?_) ?_; rotate_left
  · (have h1 := hSw.1; have h2 := hSw.2.1; go_simp; all_goals (with_reducible rfl))
  (try simp only [Act.put, Zz])
  refine tk 6 ?_ hHeld (fun w' hSw => ?_) ?_; rotate_left
  · (have h1 := hSw.1; have h2 := hSw.2.1; go_simp; all_goals (with_reducible rfl))
  (try simp only [Act.put, Zz])
  refine wpAnyH_take (i := 7) rfl (by kernel_rfl) (by kernel_rfl) (by kernel_rfl) (fun _ _ _ h => h) (yieldsIf_load_mid (by rfl) 33 _ (by rfl) g (k * 33) (by first | rfl | (simp [Act.eval, Act.put, Addr.add]; done)) _ _ (fun w' h => h.2.2.1) Try.underlying33 rfl (by rw [HX.out.2.2.1]; kernel_rfl)) hHeld ?_
  (try simp only [Act.put, Zz])
  refine wpAnyH_take (i := 8) rfl (by kernel_rfl) (by kernel_rfl) (by kernel_rfl) (fun _ _ _ h => h) (yieldsIf_load_mid (by rfl) 33 _ (by rfl) gh 0 (by first | rfl | (simp [Act.eval, Act.put, Addr.add]; done)) _ _ (fun w' h => h.2.2.2) Try.underlying33 rfl (by rw [HX.out.2.2.2]; kernel_rfl)) hHeld ?_
  (try simp only [Act.put, Zz])
  refine wpAnyH_ready (rs := [9]) (by kernel_rfl) (by simp) ?_
  refine AllReadyH.cons rfl (fun K hK => ?_) AllReadyH.nil
  go_simp
  ((with_reducible refine (cC _).mono ?_); rintro _ W5 ⟨rfl, hbW5⟩)
  have HW5 := Lib.hid hbW5
  refine hK.out _ _ ⟨cell_below hbW5 hxc, cell_below hbW5 hoc, range_below hbW5 HX.out.1, range_below hbW5 HX.out.2.1⟩ (fun hHeld => ?_)
  clear hK K hbW5
  (try simp only [Act.put, Zz])
  refine tk 10 ?_ hHeld (fun w' hSw => ?_) ?_; rotate_left
  · go_simp; all_goals (with_reducible rfl)
  (try simp only [Act.put, Zz])
  refine tk 11 ?_ hHeld (fun w' hSw => ?_) ?_; rotate_left
  · go_simp; all_goals (with_reducible rfl)
  (try simp only [Act.put, Zz])
  refine wpAnyH_done (by kernel_rfl) ?_ _
  (try simp only [Act.put, Zz])
  clear hHeld
  go_wp2
  go_ret
  exact ⟨rfl, drew_below HW5.out⟩

/- Find: (*Index).at: how many of the order stand ahead of a hash. -/

theorem flat_at {L : List PN} (h : Ok32 L) {k : Nat} {p : PN} (hp : L[k]? = some p) : ∀ (j : Nat) v, (fc p)[j]? = some v → (L.flatMap fc)[k * 33 + j]? = some v := by
  induction L generalizing k with
  | nil => simp at hp
  | cons q L ih =>
    intro j v hj
    have hq := fc_len (h q (List.mem_cons_self ..))
    rw [List.flatMap_cons]
    cases k with
    | zero =>
      obtain rfl : q = p := by simpa using hp
      have : j < (fc q).length := (List.getElem?_eq_some_iff.1 hj).1
      rw [List.getElem?_append_left (by omega), Nat.zero_mul, Nat.zero_add, hj]
    | succ k =>
      rw [List.getElem?_append_right (by omega), hq, show (k + 1) * 33 + j - 33 = k * 33 + j by omega]
      exact ih (fun x hx => h x (List.mem_cons_of_mem _ hx)) (by simpa using hp) j v hj
theorem row_range {w : World} {lo : Nat} {e : TypeId} {size : Nat} {v : Value} {n : Nat} {xs : List Value} (h : w.ownsRow lo e size v n xs) : ∃ a c, v = .slice a n c ∧ n ≤ c ∧ (a = none → c = 0) ∧ ∀ g, a = some g → ∃ b, g = ⟨b, 0, none⟩ ∧ w.rangeAt b 0 xs := by
  rcases h.2 with ⟨rfl, rfl⟩ | ⟨g, cap, cur, rfl, _, hg, h1, _, _, ht⟩
  · exact ⟨none, 0, rfl, Nat.le_refl _, fun _ => rfl, fun g e => by cases e⟩
  · refine ⟨_, cap, rfl, h1, (fun e => by cases e), fun g' e => ⟨g, (Option.some.inj e).symm, fun i u hu => cell_of_heap hg ?_⟩⟩
    have : cur.toList[i]? = some u := by
      rw [← ht, List.getElem?_take] at hu
      split at hu
      · exact hu
      · cases hu
    rw [Nat.zero_add]
    simpa using this
theorem countP_range {α : Type} (q : α → Bool) (d : α) (L : List α) : (List.range L.length).countP (fun i => q (L.getD i d)) = L.countP q := by
  have : (List.range L.length).map (fun i => L.getD i d) = L := by
    apply List.ext_getElem?
    intro i
    rw [List.getElem?_map]
    by_cases hi : i < L.length
    · rw [List.getElem?_range hi]; simp [List.getElem?_eq_getElem hi]
    · rw [List.getElem?_eq_none (by simpa using hi), List.getElem?_eq_none (by simpa using hi)]; rfl
  conv => rhs; rw [← this, List.countP_map]
  rfl
theorem at_any {w : World} {bx : Nat} {v : Value} {O : List PN} {h : List UInt8} (hoc : w.cell? ⟨bx, 1, none⟩ = some v) (hrow : w.ownsRow 0 62 33 v O.length (O.flatMap fc)) (hok : Ok32 O) (hs : O.Pairwise ltP) (hl : h.length = 32) (hn : O.length ≤ 4194304) :
    Calls Try.prog 28 #[.pointer (some ⟨bx, 0, none⟩), hashV h] w fun e w' => e = .returned (.int .i64 (O.countP (fun p => decide (cmpB p.1 h < 0)) : Nat)) ∧ Below w.heap.size w w' := by
  obtain ⟨a, c, rfl, hc, hnil, hr⟩ := row_range hrow
  obtain ⟨w2, hw2, hb2, hz2, hxA, hxB⟩ := al2 w #[.pointer (some ⟨bx, 0, none⟩)] 24 (h.map bv).toArray 33
  have hoc2 := hb2.cell (World.block_lt_of_cell? _ _ hoc) |>.trans hoc
  have hx0 := cell_of_heap hxA (i := 0) (v := .pointer (some ⟨bx, 0, none⟩)) rfl
  have hS := search_any 41 #[.pointer (some ⟨w.heap.size, 0, none⟩), .pointer (some ⟨w.heap.size + 1, 0, none⟩)] O.length (fun i => decide (0 ≤ cmpB (O.getD i ([], 0)).1 h)) w2 (by omega) (fun args w => by rfl) (fun W i hW hi => by
      obtain ⟨p, hp⟩ : ∃ p, O[i]? = some p := ⟨_, List.getElem?_eq_getElem hi⟩
      have e : O.getD i ([], 0) = p := by simp [List.getD, hp]
      have hpm := List.mem_of_getElem? hp
      rw [e]
      cases a with
      | none =>
        have h0 := hr
        exfalso
        have := hnil rfl
        omega
      | some g =>
        obtain ⟨b, rfl, hb⟩ := hr g rfl
        have up : ∀ {ad : Addr} {u : Value}, w2.cell? ad = some u → W.cell? ad = some u := fun {ad u} hu => (hW.cell (World.block_lt_of_cell? _ _ hu)).trans hu
        have hy : w2.rangeAt b (i * 33) (p.1.map bv) := fun j u hj => by
          have hq := hb _ u (flat_at hok hp j u (by unfold fc; rw [List.getElem?_append_left (List.getElem?_eq_some_iff.1 hj).1]; exact hj))
          rw [Nat.zero_add] at hq
          exact (hb2.cell (World.block_lt_of_cell? _ _ hq)).trans hq
        refine at1_any (gx := w.heap.size) (bx := bx) (g := b) (c := c) (up hx0) (up hoc2) (fun j u hj => up (hy j u hj)) (fun j u hj => up (cell_of_heap hxB (by rw [Nat.zero_add, List.getElem?_toArray]; exact hj))) (hok p hpm) hl hi) (fun i j hij hj hi => by
      rw [decide_eq_true_iff] at hi ⊢
      have hi' : i < O.length := by omega
      rw [show O.getD j ([], 0) = O[j] by simp [List.getD, List.getElem?_eq_getElem hj]]
      rw [show O.getD i ([], 0) = O[i] by simp [List.getD, List.getElem?_eq_getElem hi']] at hi
      rcases Nat.eq_or_lt_of_le hij with rfl | hlt
      · exact hi
      · have h1 := ltP_le (List.pairwise_iff_getElem.1 hs i j hi' hj hlt)
        have h2 := cmpB_anti O[i].1 h
        have h3 := cmpB_anti O[j].1 h
        have h4 := cmpB_trans (x := h) (y := O[i].1) (z := O[j].1) (by omega) h1
        omega)
  rw [countP_range (fun p : PN => !decide (0 ≤ cmpB p.1 h)) ([], 0) O] at hS
  have hcn : (O.countP fun p : PN => !decide (0 ≤ cmpB p.1 h)) = O.countP (fun p => decide (cmpB p.1 h < 0)) := by
    refine List.countP_congr (fun p _ => ?_)
    simp
  rw [hcn] at hS
  have HX := Lib.hid (And.intro hb2 (And.intro hxA hxB))
  unfold hashV
  clear hb2 hxA hxB hr hrow hok hs hl hcn hoc
  go_enter Try.func28, Try.ntmps28
  go_wp2_with (refine hS.mono ?_; rintro _ w5 ⟨rfl, hb5⟩)
  go_ret
  exact ⟨rfl, bthen HX.out.1 (hb5.mono (by omega))⟩

end Go.Proofs.Ytljobojdcnhecaa
