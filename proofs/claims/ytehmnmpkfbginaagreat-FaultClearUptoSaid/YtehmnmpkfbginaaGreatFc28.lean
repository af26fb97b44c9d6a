/- Texts of this claim, one behind the other: FaM, FaN. -/
import Derived.Test.YtehmnmpkfbginaaGreatFc27
import Derived.Test.YtehmnmpkfbginaaGreatFc24
import Derived.Test.YtehmnmpkfbginaaGreatFc26
import Derived.Handy
set_option linter.unusedSimpArgs false
set_option linter.unusedVariables false
/- FaultClear: works. (printed by gen/fworks.py) -/
namespace Go.Proofs.YtehmnmpkfbginaaGreat
open Go.RowKit Go.Maps

/-- the device f lies at pf, new since w0; a byte in a block of its own -/
def Wk (w0 w : World) (pf pd : Nat) (f : FSt) (x : Option Nat) : Prop :=
  ∃ F G, FaultAt F G w pf pd f ∧ (∀ b, F b ∨ G b → w0.heap.size ≤ b) ∧ Below w0.heap.size w0 w ∧ ∀ b, x = some b → w0.heap.size ≤ b ∧ b < w.heap.size ∧ ¬ F b ∧ ¬ G b ∧ w.heap[b]? = some (.cells #[.int .u8 1] 5 (0, 0))
section
variable {w0 w : World} {pf pd : Nat} {f : FSt} {x : Option Nat}
theorem Wk.drew (h : Wk w0 w pf pd f x) : Wk w0 w.drew pf pd f x := by
  obtain ⟨F, G, h1, h2, h3, h4⟩ := h
  exact ⟨F, G, h1.kept (O := fun _ => False) ((Chg.refl _ w).drew) (fun _ _ h => h) (fun _ _ h => h), h2, ⟨h3.os, h3.tape, h3.output, h3.size, h3.block⟩, h4⟩
theorem Wk.below (h : Wk w0 w pf pd f x) {w' : World} (hb : Below w.heap.size w w') : Wk w0 w' pf pd f x := by
  obtain ⟨F, G, h1, h2, h3, h4⟩ := h
  exact ⟨F, G, h1.below hb, h2, h3.trans (hb.mono h3.size), fun b e => by
    obtain ⟨q0, q1, q2, q3, q4⟩ := h4 b e
    exact ⟨q0, Nat.lt_of_lt_of_le q1 hb.size, q2, q3, (hb.block b q1).trans q4⟩⟩
theorem Wk.alloc (h : Wk w0 w pf pd f none) : Wk w0 (w.alloc (.cells #[.int .u8 1] 5)) pf pd f (some w.heap.size) := by
  obtain ⟨F, G, h1, h2, h3, h4⟩ := h
  have hl := h1.lt
  exact ⟨F, G, h1.below (below_alloc _ _), h2, h3.trans ((below_alloc w _).mono h3.size), fun b e => by
    cases e
    exact ⟨h3.size, by simp, fun hf => by have := hl.1 _ hf; omega, fun hg => by have := hl.2.1 _ hg; omega, World.alloc_heap_new w _⟩⟩
theorem Wk.moved (h : Wk w0 w pf pd f x) : ∃ F G, FaultAt F G w pf pd f ∧ ∀ (w' : World) (f' : FSt) (F' G' : Nat → Prop), FaultAt F' G' w' pf pd f' → Moved F G F' G' w w' → Wk w0 w' pf pd f' x := by
  obtain ⟨F, G, h1, h2, h3, h4⟩ := h
  refine ⟨F, G, h1, fun w' f' F' G' k1 ⟨m1, m2, m3⟩ => ⟨F', G', k1, fun b hb => ?_, h3.trans (m1.belowLo5 h3.size (fun b hb => h2 b (.inl hb))), fun b e => ?_⟩⟩
  · have hs := h3.size
    rcases hb with hb | hb
    · rcases (m2 b hb).1 with h | h
      · exact h2 b (.inl h)
      · omega
    · rcases (m3 b hb).1 with h | h
      · exact h2 b (.inr h)
      · omega
  · obtain ⟨q0, q1, q2, q3, q4⟩ := h4 b e
    have hs := m1.size
    exact ⟨q0, by omega, fun hf => by rcases (m2 b hf).1 with h | h; exact q2 h; omega, fun hg => by rcases (m3 b hg).1 with h | h; exact q3 h; omega, m1.obj q4 q2⟩
theorem Wk.create (h : Wk w0 w pf pd f x) {k : List UInt8} (hk : k.length ≤ maxLen) {N : Nat} (hok : f.disk.Ok N) (hN : N + 1 < maxList) (hdn : f.done.length < 1048576) (hfl : f.full.length ≤ 4194304) :
    Calls Tryz.prog 16 #[.pointer (some ⟨pf, 0, none⟩), .string ⟨k.toArray⟩] w fun e w' => e = .returned (.int .i64 (f.ask ⟨1, k, [], 0, 0, 0⟩ (f.disk.create k)).2) ∧ Wk w0 w' pf pd (f.ask ⟨1, k, [], 0, 0, 0⟩ (f.disk.create k)).1 x := by
  obtain ⟨F, G, h1, h2⟩ := h.moved
  exact (h1.create hk hok hN hdn hfl).mono fun e w' ⟨k1, F', G', k2, k3⟩ => ⟨k1, h2 _ _ _ _ k2 k3⟩
theorem Wk.sync (h : Wk w0 w pf pd f x) {k : List UInt8} (hk : k.length ≤ maxLen) {N : Nat} (hok : f.disk.Ok N) (hN : N + 1 < maxList) (hdn : f.done.length < 1048576) (hfl : f.full.length ≤ 4194304) :
    Calls Tryz.prog 18 #[.pointer (some ⟨pf, 0, none⟩), .string ⟨k.toArray⟩] w fun e w' => e = .returned (.int .i64 (f.ask ⟨4, k, [], 0, 0, 0⟩ (f.disk.sync k)).2) ∧ Wk w0 w' pf pd (f.ask ⟨4, k, [], 0, 0, 0⟩ (f.disk.sync k)).1 x := by
  obtain ⟨F, G, h1, h2⟩ := h.moved
  exact (h1.sync hk hok hN hdn hfl).mono fun e w' ⟨k1, F', G', k2, k3⟩ => ⟨k1, h2 _ _ _ _ k2 k3⟩
theorem Wk.put {xb : Nat} (h : Wk w0 w pf pd f (some xb)) {k : List UInt8} (hk : k.length ≤ maxLen) {N : Nat} (hok : f.disk.Ok N) (hN : N + 1 < maxList) (hdn : f.done.length < 1048576) (hfl : f.full.length ≤ 4194304) :
    Calls Tryz.prog 17 #[.pointer (some ⟨pf, 0, none⟩), .string ⟨k.toArray⟩, .int .i64 0, .slice (some ⟨xb, 0, none⟩) 1 1] w fun e w' => e = .returned (.int .i64 (f.ask ⟨2, k, [], 0, 1, 0⟩ (f.disk.put k 0 [1])).2) ∧ Wk w0 w' pf pd (f.ask ⟨2, k, [], 0, 1, 0⟩ (f.disk.put k 0 [1])).1 (some xb) := by
  have hx := h
  obtain ⟨_, _, _, _, _, h4⟩ := hx
  obtain ⟨_, _, _, _, q4⟩ := h4 xb rfl
  have hpx : xb ≠ pf := by
    obtain ⟨F, G, k1, _, _, k4⟩ := h
    exact fun e => (k4 xb rfl).2.2.1 (by rw [e]; exact k1.lt.2.2.2)
  obtain ⟨F, G, h1, h2⟩ := h.moved
  have hc : w.cell? ⟨xb, 0, none⟩ = some (.int .u8 1) := cell_of_heap q4 (by rfl)
  have hrow : RowAt w (some ⟨xb, 0, none⟩) ([1].map bv) := RowAt.of_row (fun j u hu => by
    cases j with
    | zero => simp at hu; rw [← hu]; exact hc
    | succ j => simp at hu)
  have := h1.put (at_ := 0) (xc := 1) (l := [1]) hk hrow (fun e => by cases e) (by simp) (fun y e => by cases e; exact hpx) (by omega) hok hN hdn hfl
  exact this.mono fun e w' ⟨k1, F', G', k2, k3⟩ => ⟨k1, h2 _ _ _ _ k2 k3⟩
end
/-- the device's states as works goes on -/
noncomputable def wf0 : FSt := ⟨DSt.empty 10, [1], 3, [], false⟩
noncomputable def wf1 : FSt := (wf0.ask ⟨1, [97], [], 0, 0, 0⟩ (wf0.disk.create [97])).1
noncomputable def wf2 : FSt := (wf1.ask ⟨1, [98], [], 0, 0, 0⟩ (wf1.disk.create [98])).1
noncomputable def wf3 : FSt := (wf2.ask ⟨2, [97], [], 0, 1, 0⟩ (wf2.disk.put [97] 0 [1])).1
noncomputable def wf4 : FSt := (wf3.ask ⟨4, [97], [], 0, 0, 0⟩ (wf3.disk.sync [97])).1
theorem nameOk_97 : nameOk [97] = true := (nameOk_true ⟨by decide, by decide, by intro c hc; simp at hc; subst hc; unfold ChOk; decide⟩).symm
theorem create_97 : wf0.disk.create [97] = (({ DSt.empty 10 with files := [([], [])] } : DSt).step (.create [97] 0), 0) := by
  have h : wf0.disk.names = [] := rfl
  unfold DSt.create
  rw [nameOk_97, h]
  rfl
theorem fseq_nil (w : World) (f : Fn) (x y : Array Value) : (binOp .eql 54 (.func f x y) .nilFunc).run Tryz.prog w = .ok (.bool false) w := by
  kernel_rfl
theorem wr1 : (wf0.ask ⟨1, [97], [], 0, 0, 0⟩ (wf0.disk.create [97])).2 = 0 := by rw [create_97]; decide
theorem wd2 : wf2.disk = (({ DSt.empty 10 with files := [([], [])] } : DSt).step (.create [97] 0)) := by
  have : wf2.disk = (wf0.disk.create [97]).1 := rfl
  rw [this, create_97]
theorem wr2 : (wf1.ask ⟨1, [98], [], 0, 0, 0⟩ (wf1.disk.create [98])).2 = 5 := by decide
theorem wr3 : (wf2.ask ⟨2, [97], [], 0, 1, 0⟩ (wf2.disk.put [97] 0 [1])).2 = 0 := by
  have h2 : (wf2.disk.put [97] 0 [1]).2 = 0 := by rw [wd2]; decide
  have h3 : ∀ d : DSt × Nat, d.2 = 0 → (wf2.ask ⟨2, [97], [], 0, 1, 0⟩ d).2 = 0 := fun d h => by
    have : (wf2.ask ⟨2, [97], [], 0, 1, 0⟩ d).2 = (d.2 : Int) := rfl
    rw [this, h]; rfl
  exact h3 _ h2
theorem wr4 : (wf3.ask ⟨4, [97], [], 0, 0, 0⟩ (wf3.disk.sync [97])).2 = 6 := by decide
theorem wfd : wf1.done.length = 1 ∧ wf2.done.length = 2 ∧ wf3.done.length = 3 ∧ wf4.done.length = 4 ∧ wf4.off = true ∧ wf1.full.length = 1 ∧ wf2.full.length = 1 ∧ wf3.full.length = 1 := by decide
theorem empty_ok5 (r : Nat) (h : r ≤ maxFile) : (DSt.empty r).Ok 0 where
  room := h
  names := by simp [DSt.empty]
  sure := by simp [DSt.empty]
  rising := by simp [DSt.empty, Rising]
  risingSure := by simp [DSt.empty, Rising]
  steps := by simp [DSt.empty]
  writes := by simp [DSt.empty]
  files := by simp [DSt.empty]
  manyFiles := by simp [DSt.empty]
  manySteps := by simp [DSt.empty]
  manyWrites := by simp [DSt.empty]
  manyNames := by simp [DSt.empty]
  manySure := by simp [DSt.empty]
  done := by simp [DSt.empty]
theorem wo1 : wf1.disk.Ok 1 := (empty_ok5 10 (by decide)).create [97]
theorem wo2 : wf2.disk.Ok 1 := wo1
theorem wo3 : wf3.disk.Ok 2 := wo2.put [97] 0 [1]
section
variable {w0 w : World} {pf pd : Nat} {x : Option Nat}
theorem Wk.c1 (h : Wk w0 w pf pd wf0 x) : Calls Tryz.prog 16 #[.pointer (some ⟨pf, 0, none⟩), .string ⟨#[97]⟩] w fun e w' => e = .returned (.int .i64 0) ∧ Wk w0 w' pf pd wf1 x := by
  have := h.create (k := [97]) (by decide) (empty_ok5 10 (by decide)) (by decide) (by decide) (by decide)
  rw [wr1] at this
  exact this
theorem Wk.c2 (h : Wk w0 w pf pd wf1 x) : Calls Tryz.prog 16 #[.pointer (some ⟨pf, 0, none⟩), .string ⟨#[98]⟩] w fun e w' => e = .returned (.int .i64 5) ∧ Wk w0 w' pf pd wf2 x := by
  have := h.create (k := [98]) (by decide) wo1 (by decide) (by rw [wfd.1]; decide) (by rw [wfd.2.2.2.2.2.1]; decide)
  rw [wr2] at this
  exact this
theorem Wk.c3 {xb : Nat} (h : Wk w0 w pf pd wf2 (some xb)) : Calls Tryz.prog 17 #[.pointer (some ⟨pf, 0, none⟩), .string ⟨#[97]⟩, .int .i64 0, .slice (some ⟨xb, 0, none⟩) 1 1] w fun e w' => e = .returned (.int .i64 0) ∧ Wk w0 w' pf pd wf3 (some xb) := by
  have := h.put (k := [97]) (by decide) wo2 (by decide) (by rw [wfd.2.1]; decide) (by rw [wfd.2.2.2.2.2.2.1]; decide)
  rw [wr3] at this
  exact this
theorem Wk.c4 (h : Wk w0 w pf pd wf3 x) : Calls Tryz.prog 18 #[.pointer (some ⟨pf, 0, none⟩), .string ⟨#[97]⟩] w fun e w' => e = .returned (.int .i64 6) ∧ Wk w0 w' pf pd wf4 x := by
  have := h.sync (k := [97]) (by decide) wo3 (by decide) (by rw [wfd.2.2.1]; decide) (by rw [wfd.2.2.2.2.2.2.2]; decide)
  rw [wr4] at this
  exact this
end
theorem fcount_any {F1 G1 : Nat → Prop} {w : World} {pf pd : Nat} {f : FSt} {vf vd : Value} {e : TypeId} (h : FaultP F1 G1 w pf pd f vf vd e) : Calls Tryz.prog 21 #[.pointer (some ⟨pf, 0, none⟩)] w fun e w' => e = .returned (.int .i64 (f.done.length : Int)) ∧ w = w' := by
  obtain ⟨va, vc, rfl, _, _, _⟩ := ownsRow_at h.done
  have c4 := cell_of_heap h.cells (i := 4) (v := .slice va f.done.length vc) (by rfl)
  go_enter Tryz.func21, Tryz.ntmps21
  go_wp2
  go_ret
  exact ⟨rfl, rfl⟩
set_option maxRecDepth 100000 in
set_option maxHeartbeats 8000000 in
theorem works5_any (w : World) : Calls Tryz.prog 5 #[] w fun e w' => e = .returned (.bool true) ∧ Below w.heap.size w w' := by
  have hN := new_any (cap := 10) (by decide) w
  have cN := num5_any
  have hnf := fseq_nil
  go_enter Tryz.func5, Tryz.ntmps5
  go_upto_region 7 with (first
    | (go_at_call 7; refine (cN _ _).mono ?_; rintro _ wn ⟨rfl, rfl⟩)
    | (go_at_call 14; refine hN.mono ?_; rintro _ w1 ⟨pd, own, rfl, hD, ho, hb1⟩; obtain ⟨F0, G0, hO, hF0, hG0⟩ := One.of (w := w) hD ho (fun b hb => hb.1); obtain ⟨w2, hw2⟩ : ∃ w2, w1.alloc (.cells #[.int .i64 1] 2) = w2 := ⟨_, rfl⟩; have hb2 : Below w1.heap.size w1 w2 := (by rw [← hw2]; exact below_alloc _ _); have hfn := fnew_any (hO.below hb2) (empty_ok5 10 (by decide)) (by decide) (a := some ⟨w1.heap.size, 0, none⟩) (c := 1) (l := [1]) ⟨by decide, by decide, RowAt.of_row (fun j u hu => (by cases j with | zero => (simp at hu; rw [← hu, ← hw2]; exact cell_new w1 _ _ 0 _ rfl) | succ j => simp at hu))⟩ (halt := 3) (by decide); have HW2 := Lib.hid hw2; clear hw2)
    | rw [HW2.out]
    | (go_at_call 8; refine hfn.mono ?_; rintro _ w3 ⟨pf, F1, rfl, hf, hF1, hb3⟩; have cA := fAll_any (some ⟨pf, 0, none⟩) w3)
    | (go_at_call 15; refine cA.mono ?_; rintro _ w4 ⟨rfl, rfl⟩))
  have hs1 := hb1.size
  have hs2 := hb2.size
  have hb02 : Below w.heap.size w w2 := hb1.trans (hb2.mono hs1)
  have hk3 : Wk w w3 pf pd wf0 none := ⟨F1, G0, hf, fun b hb => (by
    rcases hb with hb | hb
    · rcases hF1 b hb with h | h
      · exact (hF0 b h).1
      · omega
    · exact (hG0 b hb).1), hb02.trans (hb3.mono hb02.size), fun b e => by cases e⟩
  have hk4 := hk3.below (below_alloc w3 (.cells #[.pointer (some ⟨pf, 0, none⟩)] 36))
  clear hk3 hf hF1 hb3 hb02 hb2 hfn hO hF0 hG0 hD ho hb1 hN cA hs1 hs2 HW2
  go_upto_region 8 with (first
    | (go_at_call 16; refine hk4.c1.mono ?_; rintro _ w5 ⟨rfl, hk5⟩)
    | (go_at_call 16; refine hk5.c2.mono ?_; rintro _ w6 ⟨rfl, hk6⟩; have hk7 := hk6.alloc)
    | (go_at_call 17; refine hk7.c3.mono ?_; rintro _ w8 ⟨rfl, hk8⟩)
    | (go_at_call 18; refine hk8.c4.mono ?_; rintro _ w9 ⟨rfl, hk⟩))
  clear hk4 hk5 hk6 hk7 hk8
  obtain ⟨F, G, hf, _, hbw, _⟩ := hk
  obtain ⟨F2, G2, vf, vd, e, hP, _, _⟩ := hf
  have hst := stopped_any hP
  have hct := fcount_any hP
  rw [wfd.2.2.2.2.1] at hst
  rw [wfd.2.2.2.1] at hct
  have hrd := read_off hP wfd.2.2.2.2.1
  have hsp := fsteps_any hP (by rw [wfd.2.2.2.1]; decide)
  rw [wfd.2.2.2.1] at hsp
  have HB := Lib.hid hbw
  clear hP hbw
  go_wp2_with (first
    | (go_at_call 7; refine (cN _ _).mono ?_; rintro _ wn ⟨rfl, rfl⟩)
    | (go_at_call 19; refine (hrd _ _ _).mono ?_; rintro _ wn ⟨rfl, rfl⟩)
    | (go_at_call 20; refine hst.mono ?_; rintro _ wn ⟨rfl, rfl⟩)
    | (go_at_call 21; refine hct.mono ?_; rintro _ wn ⟨rfl, rfl⟩)
    | (go_at_call 22; refine hsp.mono ?_; rintro _ w9 ⟨v9, rfl, hr9, hb9⟩; obtain ⟨va, vc, rfl, _, _, _⟩ := ownsRow_at hr9))
  go_ret
  exact ⟨rfl, HB.out.trans (hb9.mono HB.out.size)⟩

end Go.Proofs.YtehmnmpkfbginaaGreat
/- FaultClear: the device and the disk by itself, side by side; what is handed in. -/
namespace Go.Proofs.YtehmnmpkfbginaaGreat
open Go.RowKit Go.Maps

/-- the device f lies at pf over the disk at pd, and apart from it the disk s at po; all is new since w0; neither writes the blocks T -/
def Side5 (w0 w : World) (pf pd po : Nat) (f : FSt) (s : DSt) (T : Nat → Prop) : Prop :=
  ∃ F1 G1 F2 G2, FaultAt F1 G1 w pf pd f ∧ One F2 G2 w po s ∧ (∀ b, F1 b ∨ G1 b ∨ F2 b ∨ G2 b → w0.heap.size ≤ b) ∧ Below w0.heap.size w0 w ∧ (∀ b, F1 b → ¬ F2 b ∧ ¬ G2 b) ∧ (∀ b, G1 b → ¬ F2 b) ∧ ∀ b, T b → b < w.heap.size ∧ ¬ F1 b ∧ ¬ F2 b
section
variable {w0 w w' : World} {pf pd po : Nat} {f : FSt} {s : DSt} {T : Nat → Prop}
theorem Side5.bel (h : Side5 w0 w pf pd po f s T) : Below w0.heap.size w0 w := by
  obtain ⟨_, _, _, _, _, _, _, h4, _, _⟩ := h
  exact h4
theorem Side5.below (h : Side5 w0 w pf pd po f s T) (hb : Below w.heap.size w w') : Side5 w0 w' pf pd po f s T := by
  obtain ⟨F1, G1, F2, G2, h1, h2, h3, h4, h5, h6, h7⟩ := h
  exact ⟨F1, G1, F2, G2, h1.below hb, h2.below hb, h3, h4.trans (hb.mono h4.size), h5, h6, fun b e => ⟨Nat.lt_of_lt_of_le (h7 b e).1 hb.size, (h7 b e).2⟩⟩
theorem Side5.new (h : Side5 w0 w pf pd po f s T) (o : Obj) : Side5 w0 (w.alloc o) pf pd po f s (fun b => b = w.heap.size) := by
  obtain ⟨E1, E2, E3, E4, k1, k2, k3, k4, k5, k6, k7⟩ := h
  have q1 := k1.lt
  have q2 := k2.lt
  exact ⟨E1, E2, E3, E4, k1.below (below_alloc w o), k2.below (below_alloc w o), k3, k4.trans ((below_alloc w o).mono k4.size), k5, k6, fun b e => ⟨by subst e; simp, fun hf => by subst e; have := q1.1 _ hf; omega, fun hf => by subst e; have := q2.1 _ hf; omega⟩⟩
theorem Side5.anyT (h : Side5 w0 w pf pd po f s T) : Side5 w0 w pf pd po f s (fun _ => False) := by
  obtain ⟨F1, G1, F2, G2, h1, h2, h3, h4, h5, h6, h7⟩ := h
  exact ⟨F1, G1, F2, G2, h1, h2, h3, h4, h5, h6, fun b e => e.elim⟩
/-- a step of the device -/
theorem Side5.left (h : Side5 w0 w pf pd po f s T) : ∃ F G, FaultAt F G w pf pd f ∧ ∀ (w' : World) (f' : FSt) (F' G' : Nat → Prop), FaultAt F' G' w' pf pd f' → Moved F G F' G' w w' → Side5 w0 w' pf pd po f' s T ∧ ∀ b o, T b → w.heap[b]? = some o → w'.heap[b]? = some o := by
  obtain ⟨F1, G1, F2, G2, h1, h2, h3, h4, h5, h6, h7⟩ := h
  have l1 := h1.lt
  have l2 := h2.lt
  have hs := h4.size
  refine ⟨F1, G1, h1, fun w' f' F' G' k1 ⟨m1, m2, m3⟩ => ⟨⟨F', G', F2, G2, k1, h2.kept m1 (fun b hb hf => (h5 b hf).1 hb) (fun b hb hf => (h5 b hf).2 hb), fun b hb => ?_, h4.trans (m1.belowLo5 hs (fun b hb => h3 b (.inl hb))), fun b hb => ?_, fun b hb hf => ?_, fun b hb => ⟨Nat.lt_of_lt_of_le (h7 b hb).1 m1.size, fun hf => ?_, (h7 b hb).2.2⟩⟩, fun b o hb ho => m1.obj ho (h7 b hb).2.1⟩⟩
  · rcases hb with hb | hb | hb
    · rcases (m2 b hb).1 with h | h
      · exact h3 b (.inl h)
      · omega
    · rcases (m3 b hb).1 with h | h
      · exact h3 b (.inr (.inl h))
      · omega
    · exact h3 b (.inr (.inr hb))
  · rcases (m2 b hb).1 with h | h
    · exact h5 b h
    · exact ⟨fun e => by have := l2.1 b e; omega, fun e => by have := l2.2.1 b e; omega⟩
  · rcases (m3 b hb).1 with h | h
    · exact h6 b h hf
    · have := l2.1 b hf; omega
  · rcases (m2 b hf).1 with h | h
    · exact (h7 b hb).2.1 h
    · have := (h7 b hb).1; omega
/-- a step of the disk by itself -/
theorem Side5.right (h : Side5 w0 w pf pd po f s T) : ∃ F G, One F G w po s ∧ ∀ (w' : World) (s' : DSt) (F' G' : Nat → Prop), One F' G' w' po s' → Moved F G F' G' w w' → Side5 w0 w' pf pd po f s' T ∧ ∀ b o, T b → w.heap[b]? = some o → w'.heap[b]? = some o := by
  obtain ⟨F1, G1, F2, G2, h1, h2, h3, h4, h5, h6, h7⟩ := h
  have l1 := h1.lt
  have l2 := h2.lt
  have hs := h4.size
  refine ⟨F2, G2, h2, fun w' s' F' G' k1 ⟨m1, m2, m3⟩ => ⟨⟨F1, G1, F', G', h1.kept m1 (fun b hb hf => (h5 b hb).1 hf) (fun b hb hf => h6 b hb hf), k1, fun b hb => ?_, h4.trans (m1.belowLo5 hs (fun b hb => h3 b (.inr (.inr (.inl hb))))), fun b hb => ⟨fun hf => ?_, fun hg => ?_⟩, fun b hb hf => ?_, fun b hb => ⟨Nat.lt_of_lt_of_le (h7 b hb).1 m1.size, (h7 b hb).2.1, fun hf => ?_⟩⟩, fun b o hb ho => m1.obj ho (h7 b hb).2.2⟩⟩
  · rcases hb with hb | hb | hb | hb
    · exact h3 b (.inl hb)
    · exact h3 b (.inr (.inl hb))
    · rcases (m2 b hb).1 with h | h
      · exact h3 b (.inr (.inr (.inl h)))
      · omega
    · rcases (m3 b hb).1 with h | h
      · exact h3 b (.inr (.inr (.inr h)))
      · omega
  · rcases (m2 b hf).1 with h | h
    · exact (h5 b hb).1 h
    · have := l1.1 b hb; omega
  · rcases (m3 b hg).1 with h | h
    · exact (h5 b hb).2 h
    · have := l1.1 b hb; omega
  · rcases (m2 b hf).1 with h | h
    · exact h6 b hb h
    · have := l1.2.1 b hb; omega
  · rcases (m2 b hf).1 with h | h
    · exact (h7 b hb).2.2 h
    · have := (h7 b hb).1; omega
theorem FaultAt.stop {F G : Nat → Prop} (h : FaultAt F G w pf pd f) : Calls Tryz.prog 9 #[.pointer (some ⟨pf, 0, none⟩)] w fun e w' => e = .returned (.int .i64 0) ∧ FaultAt F G w' pf pd { f with off := true } ∧ Moved F G F G w w' := by
  have hl := h.lt
  obtain ⟨F1, G1, vf, vd, e, h1, h2, h3⟩ := h
  refine (dstop_any h1).mono ?_
  rintro _ w' ⟨rfl, k1, k2⟩
  have hs := k2.size
  exact ⟨rfl, ⟨F1, G1, vf, vd, e, k1, h2, h3⟩, k2.mono (fun b hb _ => by subst hb; exact hl.2.2.2), fun b hb => ⟨.inl hb, by have := hl.1 b hb; omega⟩, fun b hb => ⟨.inl hb, by have := hl.2.1 b hb; omega⟩⟩
theorem Side5.stop (h : Side5 w0 w pf pd po f s T) : Calls Tryz.prog 9 #[.pointer (some ⟨pf, 0, none⟩)] w fun e w' => e = .returned (.int .i64 0) ∧ Side5 w0 w' pf pd po { f with off := true } s T ∧ ∀ b o, T b → w.heap[b]? = some o → w'.heap[b]? = some o := by
  obtain ⟨F, G, h1, h2⟩ := h.left
  exact h1.stop.mono fun e w' ⟨k1, k2, k3⟩ => ⟨k1, h2 _ _ _ _ k2 k3⟩
theorem Side5.dev (h : Side5 w0 w pf pd po f s T) {x : AOp} (hx : x.Ok) {da : Option Addr} {dc : Nat} (hrow : RowAt w da (x.data.map bv)) (hnil : da = none → dc = 0) {N : Nat} (hok : f.disk.Ok N) (hN : N + 1 < maxList) (hdn : f.done.length < 1048576) (hfl : f.full.length ≤ 4194304) :
    Calls Tryz.prog 10 #[.iface 36 (.pointer (some ⟨pf, 0, none⟩)), .agg (encO x da dc)] w fun e w' => e = .returned (.int .i64 (stepF x f).2) ∧ Side5 w0 w' pf pd po (stepF x f).1 s T ∧ ∀ b o, T b → w.heap[b]? = some o → w'.heap[b]? = some o := by
  obtain ⟨F, G, h1, h2⟩ := h.left
  exact (asked_dev h1 hx hrow hnil hok hN hdn hfl).mono fun e w' ⟨k1, F', G', k2, k3⟩ => ⟨k1, h2 _ _ _ _ k2 k3⟩
theorem Side5.own (h : Side5 w0 w pf pd po f s T) {x : AOp} (hx : x.Ok) {da : Option Addr} {dc : Nat} (hrow : RowAt w da (x.data.map bv)) (hnil : da = none → dc = 0) {N : Nat} (hok : s.Ok N) (hN : N + 1 < maxList) :
    Calls Tryz.prog 10 #[.iface 31 (.pointer (some ⟨po, 0, none⟩)), .agg (encO x da dc)] w fun e w' => e = .returned (.int .i64 ((stepD x s).2 : Int)) ∧ Side5 w0 w' pf pd po f (stepD x s).1 T ∧ ∀ b o, T b → w.heap[b]? = some o → w'.heap[b]? = some o := by
  obtain ⟨F, G, h1, h2⟩ := h.right
  exact (asked_disk h1 hx hrow hnil hok hN).mono fun e w' ⟨k1, F', G', k2, k3⟩ => ⟨k1, h2 _ _ _ _ k2 k3⟩
theorem Side5.hasD (h : Side5 w0 w pf pd po f s T) : Has 0 w pd f.disk ∧ Has 0 w po s := by
  obtain ⟨F1, G1, F2, G2, ⟨F3, G3, vf, vd, e, h1, _⟩, h2, _⟩ := h
  exact ⟨h1.disk.has, h2.has⟩
theorem Side5.start {F1 G1 F2 G2 F3 : Nat → Prop} {w1 : World} (hb1 : Below w0.heap.size w0 w1) (hF1 : ∀ b, F1 b → w0.heap.size ≤ b ∧ b < w1.heap.size) (hG1 : ∀ b, G1 b → w0.heap.size ≤ b ∧ b < w1.heap.size) (h2 : One F2 G2 w po s) (hb2 : Below w0.heap.size w0 w)
    (hF2 : ∀ b, F2 b → w1.heap.size ≤ b ∧ b < w.heap.size) (hG2 : ∀ b, G2 b → w1.heap.size ≤ b ∧ b < w.heap.size) (hf : FaultAt F3 G1 w' pf pd f) (hF3 : ∀ b, F3 b → F1 b ∨ w.heap.size ≤ b) (hb : Below w.heap.size w w') : Side5 w0 w' pf pd po f s (fun _ => False) := by
  have hs1 := hb1.size
  have hs2 := hb2.size
  refine ⟨F3, G1, F2, G2, hf, h2.below hb, fun b h => ?_, hb2.trans (hb.mono hb2.size), fun b h => ⟨fun k => ?_, fun k => ?_⟩, fun b h k => ?_, fun b h => h.elim⟩
  · rcases h with h | h | h | h
    · rcases hF3 b h with k | k
      · exact (hF1 b k).1
      · omega
    · exact (hG1 b h).1
    · have := (hF2 b h).1; omega
    · have := (hG2 b h).1; omega
  · have := hF2 b k
    rcases hF3 b h with k | k
    · have := hF1 b k; omega
    · omega
  · have := hG2 b k
    rcases hF3 b h with k | k
    · have := hF1 b k; omega
    · omega
  · have := hF2 b k; have := hG1 b h; omega
end
/-- the disk that Of makes, if it makes one -/
noncomputable def of5 (cap : Int) (L : List (List UInt8 × List UInt8)) : Option DSt := open Classical in if 0 ≤ cap ∧ cap ≤ 1099511627776 ∧ NamesGood L then some (DSt.ofFiles cap.toNat L) else none
theorem of5_no (cap : Int) (hc : cap < 0 ∨ 1099511627776 < cap) (v : Value) (w : World) (hv : ∃ a n c, v = .slice a n c) : Calls Tryz.prog 6 #[.int .i64 cap, v] w fun e w' => e = .returned (.tuple #[.pointer none, .int .i64 2]) ∧ w = w' := by
  obtain ⟨a, n, c, rfl⟩ := hv
  rcases hc with hc | hc
  · have g1 : decide (cap < 0) = true := by simpa using hc
    go_enter Tryz.func6, Tryz.ntmps6
    go_wp2_with fail
    go_ret2
    exact ⟨rfl, rfl⟩
  · have g1 : decide (cap < 0) = false := by simp; omega
    have g2 : decide (1099511627776 < cap) = true := by simpa using hc
    go_enter Tryz.func6, Tryz.ntmps6
    go_wp2_with fail
    go_ret2
    exact ⟨rfl, rfl⟩
/-- what Of answers where it makes a disk s, and where it makes none -/
def Of5 (w : World) (o : Option DSt) (e : Ending) (w' : World) : Prop := match o with
  | some s => (∃ p F G, e = .returned (.tuple #[.pointer (some ⟨p, 0, none⟩), .int .i64 0]) ∧ One F G w' p s ∧ (∀ b, F b → w.heap.size ≤ b ∧ b < w'.heap.size) ∧ ∀ b, G b → w.heap.size ≤ b ∧ b < w'.heap.size) ∧ Below w.heap.size w w'
  | none => e = .returned (.tuple #[.pointer none, .int .i64 2]) ∧ Below w.heap.size w w'
theorem of5_any {w : World} {cap : Int} {a : Option Addr} {c : Nat} {L : List (List UInt8 × List UInt8)} (hA : FilesArg w a L) (hLn : L.length ≤ maxList) (hsz : ∀ p ∈ L, p.2.length ≤ 140737488355328) (hnm : ∀ p ∈ L, p.1.length ≤ maxLen) :
    Calls Tryz.prog 6 #[.int .i64 cap, .slice a L.length c] w (Of5 w (of5 cap L)) := by
  by_cases hc : 0 ≤ cap ∧ cap ≤ 1099511627776
  · obtain ⟨n, rfl⟩ := Int.eq_ofNat_of_zero_le hc.1
    refine (Of_any (by omega) hA hLn hsz hnm).mono fun e w' ⟨h, hb⟩ => ?_
    rcases h with ⟨hg, p, own, rfl, hd, ho⟩ | ⟨hg, rfl⟩
    · have e1 : of5 (n : Int) L = some (DSt.ofFiles n L) := by unfold of5; rw [if_pos ⟨hc.1, hc.2, hg⟩, Int.toNat_natCast]
      rw [e1]
      obtain ⟨F, G, k1, k2, k3⟩ := One.of (w := w) hd ho (fun b hb => hb.1)
      exact ⟨⟨p, F, G, rfl, k1, k2, k3⟩, hb⟩
    · have e1 : of5 (n : Int) L = none := by unfold of5; rw [if_neg (fun h => hg h.2.2)]
      rw [e1]
      exact ⟨rfl, hb⟩
  · refine (of5_no cap (by omega) _ w ⟨_, _, _, rfl⟩).mono fun e w' ⟨h, hb⟩ => ?_
    subst h hb
    have e1 : of5 cap L = none := by unfold of5; rw [if_neg (fun h => hc ⟨h.1, h.2.1⟩)]
    rw [e1]
    exact ⟨rfl, Below.refl _ _⟩
theorem of5_ok {cap : Int} {L : List (List UInt8 × List UInt8)} (hL : ∀ p ∈ L, p.2.length ≤ maxFile) {s : DSt} (h : of5 cap L = some s) : s.Ok L.length := by
  unfold of5 at h
  split at h
  · rename_i h1
    cases h
    exact DSt.Ok.ofFiles (by unfold maxFile; omega) ⟨h1.2.2.1, h1.2.2.2, hL⟩
  · cases h
/-- the law's steps as they are handed in -/
def AOpAt (w : World) (b o : Nat) (x : AOp) : Prop := ∃ (da : Option Addr) (dc : Nat), (∀ (j : Nat) u, (encO x da dc)[j]? = some u → w.cell? ⟨b, o + j, none⟩ = some u) ∧ (da = none → dc = 0) ∧ RowAt w da (x.data.map bv)
def AOpsArg (w : World) (a : Option Addr) (xs : List AOp) : Prop := xs ≠ [] → ∃ b off, a = some ⟨b, off, none⟩ ∧ ∀ (i : Nat) x, xs[i]? = some x → AOpAt w b (off + i * 7) x
theorem AOpAt.below {w w' : World} {b o : Nat} {x : AOp} (h : AOpAt w b o x) (hb : Below w.heap.size w w') : AOpAt w' b o x := by
  obtain ⟨da, dc, h0, hn, hr⟩ := h
  exact ⟨da, dc, fun j u hu => (hb.cell (p := ⟨b, o + j, none⟩) (cell_lt (h0 j u hu))).trans (h0 j u hu), hn, hr.below hb⟩
theorem AOpsArg.below {w w' : World} {a : Option Addr} {xs : List AOp} (h : AOpsArg w a xs) (hb : Below w.heap.size w w') : AOpsArg w' a xs := fun hx => by
  obtain ⟨b, off, e, hc⟩ := h hx
  exact ⟨b, off, e, fun i x hi => (hc i x hi).below hb⟩

end Go.Proofs.YtehmnmpkfbginaaGreat
