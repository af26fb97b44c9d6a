/- Texts of this claim, one behind the other: FaG, FaH. -/
import Derived.Test.YtehmnmpkfbginaaGreatFc23
set_option linter.unusedSimpArgs false
set_option linter.unusedVariables false
/- The device over the disk: New, Full, Stop, Stopped, looks, Read. -/
namespace Go.Proofs.YtehmnmpkfbginaaGreat
open Go.RowKit Go.Maps

theorem Tryz.info2' : (Tryz.prog.info? 2).map (fun i => (i.zero, i.size, i.bytes)) = some (some (.int .i64 0), 1, 8) := by kernel_rfl
set_option maxRecDepth 100000 in
set_option maxHeartbeats 1000000 in
/-- a first number is put into a list -/
theorem insert_first (t : Int) {w : World} {g : Nat} (hc : w.cell? ⟨g, 0, none⟩ = some (.int .i64 t)) :
    Calls Tryz.prog 42 #[.slice none 0 0, .int .i64 0, .slice (some ⟨g, 0, none⟩) 1 1] w fun e w' => ∃ v, e = .returned v ∧ w'.ownsRow w.heap.size 2 1 v 1 [.int .i64 t] ∧ Below w.heap.size w w' := by
  have hmax : maxLen = 9223372036854775807 := rfl
  obtain ⟨i0, hi, hz0, hz1, hz2⟩ := info_parts Tryz.info2'
  go_enter Tryz.func42, Tryz.ntmps42
  go_wp2_with (at_builtin; refine wpList_append_any _ rfl (.tmp 23) (.tmp 24) 23 rfl w.heap.size 2 i0 (.int .i64 0) 8 Tryz.underlying23 hi hz0 hz1 hz2 rfl (.slice none 0 0) 0 [] rfl (World.ownsRow_nil _ _ _ _) (some ⟨g, 0, none⟩) 1 1 [.int .i64 t] rfl rfl (fun h => by cases h) (RowAt.of_row (fun j u hu => by cases j with | zero => simp at hu; rw [← hu]; exact hc | succ j => simp at hu)) (by simp [Value.oneCell']) (by omega) (by omega) (Nat.le_refl _) ?_; intro v1 w1 hv1 hg1; rw [Nat.zero_add, List.nil_append] at hv1; have hb1 : Below w.heap.size w w1 := (Below.refl _ _).grown hg1 (Nat.le_refl _) (by intro k hk; cases hk))
  go_ret
  exact ⟨_, rfl, hv1, hb1⟩
section
variable {F1 G1 : Nat → Prop} {w : World} {pf pd : Nat} {f : FSt} {vf vd : Value} {e : TypeId}
theorem stopped_any (h : FaultP F1 G1 w pf pd f vf vd e) : Calls Tryz.prog 20 #[.pointer (some ⟨pf, 0, none⟩)] w fun e w' => e = .returned (.bool f.off) ∧ w = w' := by
  have c5 := cell_of_heap h.cells (i := 5) (v := .bool f.off) (by rfl)
  go_enter Tryz.func20, Tryz.ntmps20
  go_wp2
  go_ret
  exact ⟨rfl, rfl⟩
theorem looks_any (h : FaultP F1 G1 w pf pd f vf vd e) : Calls Tryz.prog 36 #[.pointer (some ⟨pf, 0, none⟩)] w fun e w' => e = .returned (.int .i64 (if f.off then 6 else 0)) ∧ w = w' := by
  have c0 := cell_of_heap h.cells (i := 0) (v := .pointer (some ⟨pd, 0, none⟩)) (by rfl)
  have c5 := cell_of_heap h.cells (i := 5) (v := .bool f.off) (by rfl)
  generalize f.off = ob at c5
  cases ob <;>
  · go_enter Tryz.func36, Tryz.ntmps36
    go_wp2
    go_ret
    exact ⟨rfl, rfl⟩
theorem dstop_any (h : FaultP F1 G1 w pf pd f vf vd e) : Calls Tryz.prog 9 #[.pointer (some ⟨pf, 0, none⟩)] w fun e' w' => e' = .returned (.int .i64 0) ∧ FaultP F1 G1 w' pf pd { f with off := true } vf vd e ∧ Chg (· = pf) w w' := by
  have c0 := cell_of_heap h.cells (i := 0) (v := .pointer (some ⟨pd, 0, none⟩)) (by rfl)
  have c5 := cell_of_heap h.cells (i := 5) (v := .bool f.off) (by rfl)
  have z5 := frozen_of_heap (i := 5) h.cells
  obtain ⟨w2, hw2⟩ : ∃ w2, w.setCell ⟨pf, 5, none⟩ (.bool true) = w2 := ⟨_, rfl⟩
  have hc : Chg (· = pf) w w2 := by rw [← hw2]; exact Chg.set _ rfl
  have hp := heap_set_cells (i := 5) (.bool true) h.cells
  rw [hw2] at hp
  have hF : FaultP F1 G1 w2 pf pd { f with off := true } vf vd e := {
    cells := hp
    disk := h.disk.kept hc (fun b hb e => (h.out b (.inl hb)).1 e) (fun b hb e => (h.out b (.inr hb)).1 e)
    full := hc.row h.full (fun b hb e => by subst e; exact h.pfv.1 hb)
    done := hc.row h.done (fun b hb e => by subst e; exact h.pfv.2 hb)
    rise := h.rise
    out := h.out
    pfv := h.pfv
    apart := h.apart }
  have HF := Lib.hid (And.intro hF hc)
  clear hF hc hp h
  go_enter Tryz.func9, Tryz.ntmps9
  go_wp2_with (rw [hw2])
  go_ret
  exact ⟨rfl, HF.out.1, HF.out.2⟩
set_option maxRecDepth 100000 in
set_option maxHeartbeats 2000000 in
theorem full_first (h : FaultP F1 G1 w pf pd f (.slice none 0 0) vd e) (hf : f.full = []) {t : Int} (ht : 0 ≤ t) :
    Calls Tryz.prog 27 #[.pointer (some ⟨pf, 0, none⟩), .int .i64 t] w fun e' w' => e' = .returned (.int .i64 0) ∧ ∃ vf', FaultP F1 G1 w' pf pd { f with full := [t] } vf' vd e ∧ Chg (· = pf) w w' ∧ ∀ b, vf'.ownBlock = some b → w.heap.size ≤ b := by
  have hs : Calls Tryz.prog 41 #[.slice none 0 0, .int .i64 t] w fun e w' => e = .returned (.tuple #[.int .i64 0, .bool false]) ∧ w = w' := search_any (zs := []) List.Pairwise.nil t (a := none) (c := 0) (RowAt.nil _ _) (by simp)
  have c0 := cell_of_heap h.cells (i := 0) (v := .pointer (some ⟨pd, 0, none⟩)) (by rfl)
  have c2 := cell_of_heap h.cells (i := 2) (v := .slice none 0 0) (by rfl)
  have hpl := heap_lt h.cells
  have g1 : decide (t < 0) = false := by simpa using ht
  obtain ⟨w1, hw1⟩ : ∃ w1, w.alloc (.cells #[.int .i64 t] 2) = w1 := ⟨_, rfl⟩
  have hb1 : Below w.heap.size w w1 := by rw [← hw1]; exact below_alloc _ _
  have hz1 : w1.heap.size = w.heap.size + 1 := by rw [← hw1]; simp
  have hins := insert_first t (w := w1) (g := w.heap.size) (by rw [← hw1]; exact cell_new w _ _ 0 _ rfl)
  have HW := Lib.hid hw1
  have H := Lib.hid h
  have HZ := Lib.hid hz1
  clear hw1 h hz1
  go_enter Tryz.func27, Tryz.ntmps27
  go_wp2_with (first | rw [HW.out] | (go_at_call 41; refine hs.mono ?_; rintro _ w2 ⟨rfl, rfl⟩) | (go_at_call 42; refine hins.mono ?_; rintro _ w3 ⟨v, rfl, hv, hb3⟩; obtain ⟨va, vc, rfl, _, _, _⟩ := ownsRow_at hv; have hp3 := ((hb1.trans (hb3.mono hb1.size)).block _ hpl).trans H.out.cells; have c23 := cell_of_heap hp3 (i := 2) (v := .slice none 0 0) (by rfl); have z23 := frozen_of_heap (i := 2) hp3))
  go_ret
  have hs1 := hb1.size
  have hbw : Below w.heap.size w w3 := hb1.trans (hb3.mono hs1)
  have hcs : Chg (· = pf) w3 (w3.setCell ⟨pf, 2, none⟩ (.slice va 1 vc)) := Chg.set _ rfl
  have hcw : Chg (· = pf) w (w3.setCell ⟨pf, 2, none⟩ (.slice va 1 vc)) := (Chg.of_below hbw).trans hcs (fun _ h _ => h)
  have hnew : ∀ b, (Value.slice va 1 vc).ownBlock = some b → w.heap.size < b := fun b hb => by have := (hv.lt b hb).1; rw [HZ.out] at this; omega
  have hlt := H.out.disk.lt
  refine ⟨rfl, .slice va 1 vc, {
    cells := heap_set_cells (i := 2) (.slice va 1 vc) hp3
    disk := H.out.disk.kept hcw (fun b hb e => (H.out.out b (.inl hb)).1 e) (fun b hb e => (H.out.out b (.inr hb)).1 e)
    full := hcs.row (ownsRow_base_le hv (Nat.zero_le _)) (fun b hb e => by have := hnew b hb; omega)
    done := hcw.row H.out.done (fun b hb e => by subst e; exact H.out.pfv.2 hb)
    rise := List.pairwise_singleton _ _
    out := fun b hb => ⟨(H.out.out b hb).1, fun e => by have := hnew b e; rcases hb with hb | hb; have := hlt.1 b hb; omega; have := hlt.2.1 b hb; omega, (H.out.out b hb).2.2⟩
    pfv := ⟨fun e => by have := hnew pf e; omega, H.out.pfv.2⟩
    apart := fun b hb e => by have := hnew b hb; have := (H.out.done.lt b e).2; omega }, hcw, fun b hb => by have := hnew b hb; omega⟩
/-- the length of the list of a plan is 0 or 1 -/
def planIn (w : World) (a : Option Addr) (l : List Int) : Prop := l.length ≤ 1 ∧ (∀ t ∈ l, 0 ≤ t) ∧ RowAt w a (l.map (Value.int .i64))
set_option maxRecDepth 100000 in
set_option maxHeartbeats 4000000 in
theorem fnew_any {F G : Nat → Prop} {s : DSt} (h : One F G w pd s) {N : Nat} (hok : s.Ok N) (hN : N < maxList) {a : Option Addr} {c : Nat} {l : List Int} (hl : planIn w a l) {halt : Int} (hh : -1 ≤ halt) :
    Calls Tryz.prog 8 #[.pointer (some ⟨pd, 0, none⟩), .agg #[.slice a l.length c, .int .i64 halt]] w fun e w' => ∃ pf F', e = .returned (.tuple #[.pointer (some ⟨pf, 0, none⟩), .int .i64 0]) ∧ FaultAt F' G w' pf pd ⟨s, l, halt, [], false⟩ ∧ (∀ b, F' b → F b ∨ w.heap.size ≤ b) ∧ Below w.heap.size w w' := by
  obtain ⟨w1, hw1⟩ : ∃ w1, w.alloc (.cells #[.slice a l.length c, .int .i64 halt] 25) = w1 := ⟨_, rfl⟩
  have hb1 : Below w.heap.size w w1 := by rw [← hw1]; exact below_alloc _ _
  have hx1 : w1.heap[w.heap.size]? = some (.cells #[.slice a l.length c, .int .i64 halt] 25 (0, 0)) := by rw [← hw1]; exact World.alloc_heap_new w _
  have hcp := (h.below hb1).copy hok hN
  have HW := Lib.hid hw1
  have HX := Lib.hid hx1
  have HL := Lib.hid hl
  have HO := Lib.hid h
  have hmaxh : max halt (-1) = halt := by omega
  have hl1 := hl.1
  clear hw1 hx1 hl h
  go_enter Tryz.func8, Tryz.ntmps8
  go_upto_region 4 with (first | rw [HW.out] | (go_at_call 26; refine hcp.mono ?_; rintro _ w2 ⟨po, F', G', rfl, ho2, hF2, hG2, hb2⟩; have hx2 := (hb2.block _ (heap_lt HX.out)).trans HX.out; have q0 := cell_of_heap hx2 (i := 0) (v := .slice a l.length c) (by rfl); have q1 := cell_of_heap hx2 (i := 1) (v := .int .i64 halt) (by rfl)))
  obtain ⟨w3, hw3⟩ : ∃ w3, w2.alloc (.cells #[.pointer (some ⟨pd, 0, none⟩), .iface 31 (.pointer (some ⟨pd, 0, none⟩)), .slice none 0 0, .int .i64 halt, .slice none 0 0, .bool false] 77) = w3 := ⟨_, rfl⟩
  have hb3 : Below w2.heap.size w2 w3 := by rw [← hw3]; exact below_alloc _ _
  have hx3 : w3.heap[w2.heap.size]? = some (.cells #[.pointer (some ⟨pd, 0, none⟩), devV pd, .slice none 0 0, .int .i64 halt, .slice none 0 0, .bool false] 77 (0, 0)) := by rw [← hw3]; exact World.alloc_heap_new w2 _
  rw [hw3]
  clear hw3 q0 q1
  have s1 := hb1.size
  have s2 := hb2.size
  have s3 := hb3.size
  have hb12 : Below w.heap.size w w2 := hb1.trans (hb2.mono s1)
  have hb13 : Below w.heap.size w w3 := hb12.trans (hb3.mono hb12.size)
  have hx23 := (hb3.block _ (heap_lt hx2)).trans hx2
  have q0 := cell_of_heap hx23 (i := 0) (v := .slice a l.length c) (by rfl)
  obtain ⟨pf, hpf⟩ : ∃ pf, w2.heap.size = pf := ⟨_, rfl⟩
  rw [hpf] at hx3 ⊢
  have hlt := HO.out.lt
  have hpfl : w.heap.size ≤ pf ∧ pf < w3.heap.size := ⟨by rw [← hpf]; exact hb12.size, heap_lt hx3⟩
  have hP0 : FaultP F G w3 pf pd ⟨s, [], halt, [], false⟩ (.slice none 0 0) (.slice none 0 0) 77 := {
    cells := hx3
    disk := HO.out.below hb13
    full := World.ownsRow_nil _ _ _ _
    done := World.ownsRow_nil _ _ _ _
    rise := List.Pairwise.nil
    out := fun b hb => ⟨by rcases hb with hb | hb; have := hlt.1 b hb; omega; have := hlt.2.1 b hb; omega, (fun e => by cases e), (fun e => by cases e)⟩
    pfv := ⟨(fun e => by cases e), (fun e => by cases e)⟩
    apart := fun b hb => by cases hb }
  have hrow := HL.out.2.2.below hb13
  cases l with
  | nil =>
    have hend := Lib.hid hP0
    clear hP0 hx3
    simp only [List.length_nil] at q0 ⊢
    go_wp2
    go_loopw [23] (fun i wr => i = .int .i64 0 ∧ wr = w3) (fun _ _ => 0)
    case atStart => exact ⟨rfl, rfl⟩
    case round =>
      obtain ⟨rfl, rfl⟩ := hrel
      go_wp2
      go_ret2
      exact ⟨pf, _, rfl, ⟨F, G, _, _, _, hend.out, fun _ => Iff.rfl, fun _ => Iff.rfl⟩, (fun b hb => by
        rcases hb with hb | rfl | hb | hb
        · exact .inl hb
        · exact .inr hpfl.1
        · cases hb
        · cases hb), hb13⟩
  | cons t r =>
    obtain rfl : r = [] := by cases r with
      | nil => rfl
      | cons => simp at hl1
    have ht0 := HL.out.2.1 t (by simp)
    obtain ⟨xb, xo, rfl, hc⟩ := hrow (by simp)
    have hcell := hc 0 (.int .i64 t) rfl
    have hfu := full_first hP0 rfl ht0
    have hend := Lib.hid hP0
    have HCC := Lib.hid hc
    simp only [List.length_cons, List.length_nil, Nat.zero_add, Nat.add_zero] at q0 hcell ⊢
    clear hP0 hx3 hc
    go_wp2
    go_loopw [23] (fun i wr => (i = .int .i64 0 ∧ wr = w3) ∨ (i = .int .i64 1 ∧ ∃ vf', FaultP F G wr pf pd ⟨s, [t], halt, [], false⟩ vf' (.slice none 0 0) 77 ∧ Below w.heap.size w wr ∧ ∀ b, vf'.ownBlock = some b → w.heap.size ≤ b)) (fun i _ => 1 - (RowKit.intOf i).toNat)
    case atStart => exact .inl ⟨rfl, rfl⟩
    case round =>
      rcases hrel with ⟨rfl, rfl⟩ | ⟨rfl, vf', hP, hbw, hnew⟩
      · go_wp2_with (go_at_call 27; refine hfu.mono ?_; rintro _ w4 ⟨rfl, vf', hP, hc4, hn⟩)
        have hbw : Below w.heap.size w w4 := ((Chg.of_below (O := fun b => w.heap.size ≤ b) hb13).trans hc4 (fun b hb _ => by have : b = pf := hb; omega)).below (fun _ h => h)
        go_roundw
        case rel => exact .inr ⟨rfl, vf', hP, hbw, fun b hb => by have := hn b hb; omega⟩
        case measure => simp [RowKit.intOf]
      · have HP := Lib.hid hP
        clear hP
        go_wp2
        go_ret2
        exact ⟨pf, _, rfl, ⟨F, G, _, _, _, HP.out, fun _ => Iff.rfl, fun _ => Iff.rfl⟩, (fun b hb => by
          rcases hb with hb | rfl | hb | hb
          · exact .inl hb
          · exact .inr hpfl.1
          · exact .inr (hnew b hb)
          · cases hb), hbw⟩
end

end Go.Proofs.YtehmnmpkfbginaaGreat
/- FaultClear: the law's small functions. -/
namespace Go.Proofs.YtehmnmpkfbginaaGreat
open Go.RowKit Go.Maps

theorem num5_any (v : Value) (w : World) : Calls Tryz.prog 7 #[v] w fun e w' => e = .returned v ∧ w = w' := by
  go_enter Tryz.func7, Tryz.ntmps7
  go_wp2
  go_ret
  exact ⟨rfl, rfl⟩
def SomeBool (w : World) (e : Ending) (w' : World) : Prop := ∃ b : Bool, e = .returned (.bool b) ∧ w = w'
set_option maxRecDepth 100000 in
set_option maxHeartbeats 1000000 in
theorem great_any {w : World} {a : Option Addr} {c : Nat} {L : List (List UInt8 × List UInt8)} (hA : FilesArg w a L) (hLn : L.length ≤ 1048576) (hLM : ∀ p ∈ L, p.2.length ≤ 1048576) :
    Calls Tryz.prog 4 #[.slice a L.length c] w (SomeBool w) := by
  have HA := Lib.hid hA
  have HM := Lib.hid hLM
  clear hA hLM
  go_enter Tryz.func4, Tryz.ntmps4
  go_wp2
  go_loop [3, 4] (fun n i => ∃ m k : Nat, n = .int .i64 m ∧ i = .int .i64 k ∧ k ≤ L.length ∧ m ≤ 4194304) (fun _ i => L.length - (intOf i).toNat)
  case atStart => exact ⟨L.length, 0, rfl, rfl, Nat.zero_le _, by omega⟩
  case round =>
    obtain ⟨m, k, rfl, rfl, hk, hm⟩ := hrel
    by_cases hlt : k < L.length
    · by_cases hm1 : m ≤ 100000
      · obtain ⟨d, hd⟩ : ∃ d, L[k]? = some d := ⟨L[k]'hlt, by simp⟩
        obtain ⟨xb, xo, rfl, hcs⟩ := HA.out (fun e => by rw [e] at hlt; simp at hlt)
        obtain ⟨_, ua, uc, hu, _, _⟩ := hcs k d hd
        have hdl := HM.out d (List.mem_of_getElem? hd)
        have j0 : (0 : Int) ≤ (k : Int) := by omega
        have j1 : (k : Int) < (L.length : Int) := by omega
        have HC := Lib.hid hcs
        clear hcs hd
        go_wp2
        go_round
        case rel => exact ⟨m + d.2.length, k + 1, by go_num, by go_num, by omega, by omega⟩
        case measure => simp [intOf]; omega
      · have g1 : decide ((m : Int) ≤ 100000) = false := by simp; omega
        go_wp2
        go_ret
        exact ⟨_, rfl, rfl⟩
    · go_wp2
      all_goals
        go_ret
        exact ⟨_, rfl, rfl⟩
theorem read_off {F1 G1 : Nat → Prop} {w : World} {pf pd : Nat} {f : FSt} {vf vd : Value} {e : TypeId} (h : FaultP F1 G1 w pf pd f vf vd e) (hoff : f.off = true) (k : ByteArray) (i n : Int) :
    Calls Tryz.prog 19 #[.pointer (some ⟨pf, 0, none⟩), .string k, .int .i64 i, .int .i64 n] w fun e w' => e = .returned (.tuple #[.slice none 0 0, .int .i64 6]) ∧ w = w' := by
  have hl := looks_any h
  rw [hoff] at hl
  simp only [if_true] at hl
  go_enter Tryz.func19, Tryz.ntmps19
  go_wp2_with (go_at_call 36; refine hl.mono ?_; rintro _ w1 ⟨rfl, rfl⟩)
  go_ret2
  exact ⟨rfl, rfl⟩

end Go.Proofs.YtehmnmpkfbginaaGreat
