/- Texts of this claim, one behind the other: FaC, FaD. -/
import Derived.Test.YtlmdpcaikhdenaaGreatSl25
import Derived.Test.YtlmdpcaikhdenaaGreatSl31
import Derived.Test.YtlmdpcaikhdenaaGreatSl02
import Derived.Maps.AppendAt
import Derived.Deep.CutBlock
import Derived.BigRegion
set_option linter.unusedSimpArgs false
set_option linter.unusedVariables false
/- The device over the disk: ask. (printed by gen/ask.py) -/
namespace Go.Proofs.YtlmdpcaikhdenaaGreat
open Go.RowKit Go.Maps

/-- a step that was asked of a device -/
structure FStep where
  op : Int
  name : List UInt8
  dst : List UInt8
  at_ : Int
  size : Int
  err : Int
def encFS (x : FStep) : List Value := [.int .i64 x.op, sv x.name, sv x.dst, .int .i64 x.at_, .int .i64 x.size, .int .i64 x.err]
/-- a device over a disk, with its plan -/
structure FSt where
  disk : DSt
  full : List Int
  halt : Int
  done : List FStep
  off : Bool
def FSt.offB (f : FSt) : Bool := f.off || (decide (0 ≤ f.halt) && decide (f.halt ≤ (f.done.length : Int)))
/-- a step is asked: d is the disk behind it, and its answer -/
def FSt.ask (f : FSt) (x : FStep) (d : DSt × Nat) : FSt × Int :=
  if f.offB = true then ({ f with off := true, done := f.done ++ [{ x with err := 6 }] }, 6)
  else if (f.done.length : Int) ∈ f.full then ({ f with done := f.done ++ [{ x with err := 5 }] }, 5)
  else ({ f with disk := d.1, done := f.done ++ [{ x with err := (d.2 : Int) }] }, (d.2 : Int))
/-- the disk as a device -/
def devV (p : Nat) : Value := .iface 45 (.pointer (some ⟨p, 0, none⟩))
/-- THE DEVICE f LIES AT pf, over the disk at pd: its parts -/
structure FaultP (F1 G1 : Nat → Prop) (w : World) (pf pd : Nat) (f : FSt) (vf vd : Value) (e : TypeId) : Prop where
  cells : w.heap[pf]? = some (.cells #[.pointer (some ⟨pd, 0, none⟩), devV pd, vf, .int .i64 f.halt, vd, .bool f.off] e (0, 0))
  disk : One F1 G1 w pd f.disk
  full : w.ownsRow 0 2 1 vf f.full.length (f.full.map (Value.int .i64))
  done : w.ownsRow 0 151 6 vd f.done.length ((f.done.map encFS).flatten)
  rise : f.full.Pairwise (· < ·)
  out : ∀ b, F1 b ∨ G1 b → b ≠ pf ∧ vf.ownBlock ≠ some b ∧ vd.ownBlock ≠ some b
  pfv : vf.ownBlock ≠ some pf ∧ vd.ownBlock ≠ some pf
  apart : ∀ b, vf.ownBlock = some b → vd.ownBlock ≠ some b
def FaultAt (F G : Nat → Prop) (w : World) (pf pd : Nat) (f : FSt) : Prop := ∃ F1 G1 vf vd e, FaultP F1 G1 w pf pd f vf vd e ∧ (∀ b, F b ↔ F1 b ∨ b = pf ∨ vf.ownBlock = some b ∨ vd.ownBlock = some b) ∧ ∀ b, G b ↔ G1 b
section
variable {F1 G1 : Nat → Prop} {w w' : World} {pf pd : Nat} {f : FSt} {vf vd : Value} {e : TypeId}
theorem FaultP.kept (h : FaultP F1 G1 w pf pd f vf vd e) {O : Nat → Prop} (hc : Chg O w w') (h1 : ∀ b, F1 b ∨ G1 b → ¬ O b) (h2 : ¬ O pf) (h3 : ∀ b, vf.ownBlock = some b → ¬ O b) (h4 : ∀ b, vd.ownBlock = some b → ¬ O b) : FaultP F1 G1 w' pf pd f vf vd e where
  cells := hc.obj h.cells h2
  disk := h.disk.kept hc (fun b hb => h1 b (.inl hb)) (fun b hb => h1 b (.inr hb))
  full := hc.row h.full h3
  done := hc.row h.done h4
  rise := h.rise
  out := h.out
  pfv := h.pfv
  apart := h.apart
end
theorem FaultAt.kept {F G O : Nat → Prop} {w w' : World} {pf pd : Nat} {f : FSt} (h : FaultAt F G w pf pd f) (hc : Chg O w w') (hF : ∀ b, F b → ¬ O b) (hG : ∀ b, G b → ¬ O b) : FaultAt F G w' pf pd f := by
  obtain ⟨F1, G1, vf, vd, e, h1, h2, h3⟩ := h
  exact ⟨F1, G1, vf, vd, e, h1.kept hc (fun b hb => hb.elim (fun k => hF b ((h2 b).2 (.inl k))) (fun k => hG b ((h3 b).2 k))) (hF pf ((h2 pf).2 (.inr (.inl rfl)))) (fun b hb => hF b ((h2 b).2 (.inr (.inr (.inl hb))))) (fun b hb => hF b ((h2 b).2 (.inr (.inr (.inr hb))))), h2, h3⟩
theorem FaultAt.below {F G : Nat → Prop} {w w' : World} {pf pd : Nat} {f : FSt} (h : FaultAt F G w pf pd f) (hb : Below w.heap.size w w') : FaultAt F G w' pf pd f := h.kept (O := fun _ => False) (Chg.of_below hb) (fun _ _ h => h) (fun _ _ h => h)
theorem FaultAt.lt {F G : Nat → Prop} {w : World} {pf pd : Nat} {f : FSt} (h : FaultAt F G w pf pd f) : (∀ b, F b → b < w.heap.size) ∧ (∀ b, G b → b < w.heap.size) ∧ (∀ b, F b → ¬ G b) ∧ F pf := by
  obtain ⟨F1, G1, vf, vd, e, h1, h2, h3⟩ := h
  have hl := h1.disk.lt
  refine ⟨fun b hb => ?_, fun b hb => hl.2.1 b ((h3 b).1 hb), fun b hb hg => ?_, (h2 pf).2 (.inr (.inl rfl))⟩
  · rcases (h2 b).1 hb with hb | rfl | hb | hb
    · exact hl.1 b hb
    · exact heap_lt h1.cells
    · exact (h1.full.lt b hb).2
    · exact (h1.done.lt b hb).2
  · have hg1 := (h3 b).1 hg
    have ho := h1.out b (.inr hg1)
    rcases (h2 b).1 hb with hb | rfl | hb | hb
    · exact hl.2.2.1 b hb hg1
    · exact ho.1 rfl
    · exact ho.2.1 hb
    · exact ho.2.2 hb
/-- between the step and its note -/
def AskMid (F1 G1 : Nat → Prop) (w : World) (pf pd : Nat) (vf vd : Value) (halt : Int) (e : TypeId) (ob : Bool) (x : FStep) (d : DSt) (wx : World) : Prop :=
  Chg (fun b => F1 b ∨ b = pf) w wx ∧ wx.heap[pf]? = some (.cells #[.pointer (some ⟨pd, 0, none⟩), devV pd, vf, .int .i64 halt, vd, .bool ob] e (0, 0)) ∧ wx.heap[w.heap.size]? = some (.cells (encFS x).toArray 151 (0, 0)) ∧
    ∃ F2 G2, One F2 G2 wx pd d ∧ (∀ b, F2 b → F1 b ∨ w.heap.size < b) ∧ ∀ b, G2 b → G1 b ∨ w.heap.size < b
theorem ask_done {F1 G1 : Nat → Prop} {w wx w' : World} {pf pd : Nat} {f : FSt} {vf vd vd' : Value} {e : TypeId} (h : FaultP F1 G1 w pf pd f vf vd e) {ob : Bool} {x : FStep} {d : DSt} (hm : AskMid F1 G1 w pf pd vf vd f.halt e ob x d wx)
    (hc : Chg (fun b => b = pf ∨ vd.ownBlock = some b) wx w') (hx : w'.heap[pf]? = some (.cells #[.pointer (some ⟨pd, 0, none⟩), devV pd, vf, .int .i64 f.halt, vd', .bool ob] e (0, 0)))
    (hd : w'.ownsRow 0 151 6 vd' (f.done.length + 1) ((f.done.map encFS).flatten ++ encFS x)) (hv : vd'.ownBlock = vd.ownBlock ∨ ∃ g, vd'.ownBlock = some g ∧ wx.heap.size ≤ g) :
    ∃ F' G', FaultAt F' G' w' pf pd { f with disk := d, done := f.done ++ [x], off := ob } ∧ Moved (fun b => F1 b ∨ b = pf ∨ vf.ownBlock = some b ∨ vd.ownBlock = some b) G1 F' G' w w' := by
  obtain ⟨hcx, hxx, hbx, F2, G2, ho, hF2, hG2⟩ := hm
  have hsx := hcx.size
  have hs' := hc.size
  have hbl := heap_lt hbx
  have hpl := heap_lt h.cells
  have hol := ho.lt
  have hvl : ∀ b, vd.ownBlock = some b → b < w.heap.size := fun b hb => (h.done.lt b hb).2
  have hfl : ∀ b, vf.ownBlock = some b → b < w.heap.size := fun b hb => (h.full.lt b hb).2
  have hout2 : ∀ b, F2 b ∨ G2 b → b ≠ pf ∧ vf.ownBlock ≠ some b ∧ vd.ownBlock ≠ some b ∧ b < wx.heap.size := fun b hb => by
    have hlt : b < wx.heap.size := hb.elim (hol.1 b) (hol.2.1 b)
    have h0 : (F1 b ∨ G1 b) ∨ w.heap.size < b := by
      rcases hb with hb | hb
      · exact (hF2 b hb).imp .inl id
      · exact (hG2 b hb).imp .inr id
    rcases h0 with h0 | h0
    · have := h.out b h0; exact ⟨this.1, this.2.1, this.2.2, hlt⟩
    · exact ⟨by omega, fun e => by have := hfl b e; omega, fun e => by have := hvl b e; omega, hlt⟩
  have hvd' : ∀ b, vd'.ownBlock = some b → vd.ownBlock = some b ∨ (wx.heap.size ≤ b ∧ b < w'.heap.size) := fun b hb => by
    rcases hv with hv | ⟨g, hv, hg⟩
    · exact .inl (by rw [← hv]; exact hb)
    · rw [hv] at hb; cases hb; exact .inr ⟨hg, (hd.lt _ hv).2⟩
  have hP : FaultP F2 G2 w' pf pd { f with disk := d, done := f.done ++ [x], off := ob } vf vd' e := {
    cells := hx
    disk := ho.kept hc (fun b hb hO => by have := hout2 b (.inl hb); rcases hO with hO | hO; exact this.1 hO; exact this.2.2.1 hO) (fun b hb hO => by have := hout2 b (.inr hb); rcases hO with hO | hO; exact this.1 hO; exact this.2.2.1 hO)
    full := hc.row (hcx.row h.full (fun b hb hO => by rcases hO with hO | hO; exact (h.out b (.inl hO)).2.1 hb; subst hO; exact h.pfv.1 hb)) (fun b hb hO => by rcases hO with hO | hO; subst hO; exact h.pfv.1 hb; exact h.apart b hb hO)
    done := by simpa using hd
    rise := h.rise
    out := fun b hb => by
      have h1 := hout2 b hb
      exact ⟨h1.1, h1.2.1, fun e => by rcases hvd' b e with h2 | h2; exact h1.2.2.1 h2; omega⟩
    pfv := ⟨h.pfv.1, fun e => by rcases hvd' pf e with h2 | h2; exact h.pfv.2 h2; omega⟩
    apart := fun b hb e => by
      rcases hvd' b e with h2 | h2
      · exact h.apart b hb h2
      · have := hfl b hb; omega }
  refine ⟨_, _, ⟨F2, G2, vf, vd', e, hP, fun _ => Iff.rfl, fun _ => Iff.rfl⟩, ?_, fun b hb => ?_, fun b hb => ?_⟩
  · exact (hcx.mono (fun b hb _ => hb.imp id .inl)).trans hc (fun b hb _ => .inr (hb.elim .inl (fun h => .inr (.inr h))))
  · rcases hb with hb | rfl | hb | hb
    · exact ⟨(hF2 b hb).elim (fun h => .inl (.inl h)) (fun h => .inr (by omega)), by have := (hout2 b (.inl hb)).2.2.2; omega⟩
    · exact ⟨.inl (.inr (.inl rfl)), by omega⟩
    · exact ⟨.inl (.inr (.inr (.inl hb))), by have := hfl b hb; omega⟩
    · rcases hvd' b hb with h2 | h2
      · exact ⟨.inl (.inr (.inr (.inr h2))), by have := hvl b h2; omega⟩
      · exact ⟨.inr (by omega), h2.2⟩
  · exact ⟨(hG2 b hb).elim (fun h => .inl h) (fun h => .inr (by omega)), by have := (hout2 b (.inr hb)).2.2.2; omega⟩
theorem Tryz.info151 : (Tryz.prog.info? 151).map (fun i => (i.zero, i.size, i.bytes)) = some (some (.agg #[.int .i64 0, .string ⟨#[]⟩, .string ⟨#[]⟩, .int .i64 0, .int .i64 0, .int .i64 0]), 6, 64) := by kernel_rfl
theorem count_any {F1 G1 : Nat → Prop} {w : World} {pf pd : Nat} {f : FSt} {vf vd : Value} {e : TypeId} (h : FaultP F1 G1 w pf pd f vf vd e) :
    Calls Tryz.prog 145 #[.pointer (some ⟨pf, 0, none⟩)] w fun e w' => e = .returned (.int .i64 (f.done.length : Int)) ∧ w = w' := by
  obtain ⟨a, c, rfl, _⟩ := ownsRow_at h.done
  have c4 := cell_of_heap h.cells (i := 4) (v := .slice a f.done.length c) (by rfl)
  go_enter Tryz.func145, Tryz.ntmps145
  go_wp2
  go_ret
  exact ⟨rfl, rfl⟩

end Go.Proofs.YtlmdpcaikhdenaaGreat
/- The device over the disk: ask, walked. (printed by gen/ask2.py) -/
namespace Go.Proofs.YtlmdpcaikhdenaaGreat
open Go.RowKit Go.Maps

/-- append, at a step of a region, and where the row lies then -/
theorem wp_append_dev {P : Program} {w : World} {o : Oper} {a : Act} {K : Act → World → Prop} {Q : Exit → Act → World → Prop} (s x : Operand) (t : TypeId)
    (ho : o.op = .call { callee := .builtin .append, args := #[s, x], argTypes := #[t, t] })
    (base : Nat) (e : TypeId) (i : TypeInfo) (z : Value) (size bytes : Nat) (ht : P.underlying t = some (.slice e)) (hi : P.info? e = some i) (hz : i.zero = some z)
    (hsize : i.size = size) (hby : i.bytes = bytes) (hzs : z.cells.size = size) (hsz : 0 < size)
    (v : Value) (n : Nat) (xs : List Value) (hs : a.eval s = v) (hown : w.ownsRow base e size v n xs)
    (ad : Addr) (m c : Nat) (news : List Value) (hx : a.eval x = .slice (some ad) m c) (hl : news.length = m * size) (hnews : ∀ j u, news[j]? = some u → w.cell? (ad.add j) = some u) (h1 : ∀ u ∈ news, u.oneCell' = true)
    (h63 : n + m ≤ maxLen) (hbytes : (n + m) * bytes ≤ 140737488355328) (hbase : base ≤ w.heap.size)
    (h : ∀ v' w', w'.ownsRow base e size v' (n + m) (xs ++ news) → w.grownBy w' v.ownBlock → (v'.ownBlock = v.ownBlock ∨ v'.ownBlock = some w.heap.size) → K (a.put o.dst v') w') : o.wp P a w K Q := by
  obtain ⟨v', w', hr, h2, h3, _, h5⟩ := run_append_own_at (P := P) w base t o.type e i z size bytes ht hi hz hsize hby hzs hsz v n xs hown ad m c news hl hnews h1 h63 hbytes hbase
  unfold Oper.wp execOp
  simp only [ho, resolve, invoke, builtin, Sem.run_bind, Sem.run_pure, Result.andThen_ok, List.map_toArray, List.map_cons, List.map_nil, hs, hx, hr]
  exact h v' w' h2 h3 h5
theorem ask_mid2 {F1 G1 P : Nat → Prop} {w wy : World} {pf pd : Nat} {vf vd : Value} {halt k : Int} {e : TypeId} {ob : Bool} {x : FStep} {d : DSt} (hx0 : x.err = 0) (hP : ∀ b, P b → F1 b ∨ b = pf) (hc : Chg P w wy) (hp : wy.heap[pf]? = some (.cells #[.pointer (some ⟨pd, 0, none⟩), devV pd, vf, .int .i64 halt, vd, .bool ob] e (0, 0)))
    (hb : wy.heap[w.heap.size]? = some (.cells (encFS x).toArray 151 (0, 0))) (hn : ¬ P w.heap.size) (hd : ∃ F2 G2, One F2 G2 wy pd d ∧ (∀ b, F2 b → F1 b ∨ w.heap.size < b) ∧ ∀ b, G2 b → G1 b ∨ w.heap.size < b) (hpw : pf < w.heap.size) (hF : ∀ b, F1 b ∨ G1 b → b < w.heap.size) :
    AskMid F1 G1 w pf pd vf vd halt e ob { x with err := k } d (wy.setCell ⟨w.heap.size, 5, none⟩ (.int .i64 k)) := by
  have hs : Chg (fun b => b = w.heap.size) wy (wy.setCell ⟨w.heap.size, 5, none⟩ (.int .i64 k)) := Chg.set _ rfl
  obtain ⟨F2, G2, ho, h1, h2⟩ := hd
  refine ⟨(hc.mono (fun b hb _ => hP b hb)).trans hs (fun b hb hl => by omega), hs.obj hp (by omega), ?_, F2, G2, ho.kept hs (fun b hb e => ?_) (fun b hb e => ?_), h1, h2⟩
  · rw [heap_set_cells (i := 5) (.int .i64 k) hb]
    rfl
  · rcases h1 b hb with h | h
    · have := hF b (.inl h); omega
    · omega
  · rcases h2 b hb with h | h
    · have := hF b (.inr h); omega
    · omega
theorem ask_eq (f : FSt) (x : FStep) (d : DSt × Nat) : (f.ask x d).1 = { f with disk := (f.ask x d).1.disk, done := f.done ++ [{ x with err := (f.ask x d).2 }], off := f.offB } := by
  unfold FSt.ask
  by_cases h1 : f.offB = true
  · rw [if_pos h1, h1]
  · have h2 : f.off = false := by
      cases h3 : f.off with
      | false => rfl
      | true => exact absurd (by unfold FSt.offB; rw [h3]; rfl) h1
    have h3 : f.offB = false := by simpa using h1
    rw [if_neg h1, h3]
    split <;> simp [← h2]

set_option maxRecDepth 100000 in
set_option maxHeartbeats 8000000 in
theorem ask_any {F1 G1 : Nat → Prop} {w : World} {pf pd : Nat} {f : FSt} {vf vd : Value} {e : TypeId} (h : FaultP F1 G1 w pf pd f vf vd e) {x : FStep} (hx0 : x.err = 0) (hdn : f.done.length < 1048576) (hfl : f.full.length ≤ 4194304) (N : FuncId) (caps : Array Value) (henter : ∀ args w, (callFunc N args).run Tryz.prog w = .ok (.enter N args) w) (d : DSt × Nat)
    (hcall : ∀ W, Chg (· = pf) w W → W.heap[pf]? = some (.cells #[.pointer (some ⟨pd, 0, none⟩), devV pd, vf, .int .i64 f.halt, vd, .bool false] e (0, 0)) → w.heap.size < W.heap.size → Calls Tryz.prog N caps W fun e w' => e = .returned (.int .i64 (d.2 : Int)) ∧ ∃ F' G', One F' G' w' pd d.1 ∧ Moved F1 G1 F' G' W w') :
    Calls Tryz.prog 106 #[.pointer (some ⟨pf, 0, none⟩), .agg #[.int .i64 x.op, .string ⟨x.name.toArray⟩, .string ⟨x.dst.toArray⟩, .int .i64 x.at_, .int .i64 x.size, .int .i64 0], .func (.func N) #[] caps] w fun e' w' => e' = .returned (.int .i64 (f.ask x d).2) ∧ ∃ F' G', FaultAt F' G' w' pf pd (f.ask x d).1 ∧ Moved (fun b => F1 b ∨ b = pf ∨ vf.ownBlock = some b ∨ vd.ownBlock = some b) G1 F' G' w w' := by
  have hmax : maxLen = 9223372036854775807 := rfl
  obtain ⟨i1, hi1, hw0, hw1, hw2⟩ := info_parts Tryz.info151
  obtain ⟨fa, fc, rfl, _, _, _⟩ := ownsRow_at h.full
  obtain ⟨da, dc, rfl, _, _, _⟩ := ownsRow_at h.done
  have hpl := heap_lt h.cells
  have hFl : ∀ b, F1 b ∨ G1 b → b < w.heap.size := fun b hb => hb.elim (h.disk.lt.1 b) (h.disk.lt.2.1 b)
  have hcnt := fun (W : World) (hW : Below w.heap.size w W) => count_any (h.kept (O := fun _ => False) (Chg.of_below hW) (fun _ _ h => h) (fun h => h) (fun _ _ h => h) (fun _ _ h => h))
  obtain ⟨w1, hw1'⟩ : ∃ w1, w.alloc (.cells #[.int .i64 x.op, .string ⟨x.name.toArray⟩, .string ⟨x.dst.toArray⟩, .int .i64 x.at_, .int .i64 x.size, .int .i64 0] 151) = w1 := ⟨_, rfl⟩
  have hb1 : Below w.heap.size w w1 := by rw [← hw1']; exact below_alloc w _
  have hB1 : w1.heap[w.heap.size]? = some (.cells (encFS x).toArray 151 (0, 0)) := by rw [← hw1']; unfold encFS; rw [hx0]; exact World.alloc_heap_new w _
  have hz1 : w1.heap.size = w.heap.size + 1 := by rw [← hw1']; simp
  have hp1 := (hb1.block _ hpl).trans h.cells
  have c0 := cell_of_heap hp1 (i := 0) (v := .pointer (some ⟨pd, 0, none⟩)) (by rfl)
  have c3 := cell_of_heap hp1 (i := 3) (v := .int .i64 f.halt) (by rfl)
  have c5 := cell_of_heap hp1 (i := 5) (v := .bool f.off) (by rfl)
  have z5 := frozen_of_heap (i := 5) hp1
  obtain ⟨ob, hob⟩ : ∃ ob, f.offB = ob := ⟨_, rfl⟩
  have hc1 := hcnt w1 hb1
  have HOB := Lib.hid hob
  have H := Lib.hid h
  have HW := Lib.hid hw1'
  have HC := Lib.hid hcall
  have HP1 := Lib.hid (And.intro hp1 (And.intro hB1 (And.intro hz1 hb1)))
  clear hob h hcall hcnt hp1 hB1 hz1
  go_enter Tryz.func106, Tryz.ntmps106
  go_upto_region 4 with (first | rw [HW.out] | (go_at_call 145; refine hc1.mono ?_; rintro _ w1' ⟨rfl, rfl⟩))
  go_cut [] from 21 to 42 (fun wx => w1.setCell ⟨pf, 5, none⟩ (.bool ob) = wx)
  case first =>
    have hval := HOB.out
    unfold FSt.offB at hval
    cases hoff : f.off with
    | true =>
      obtain rfl : ob = true := by rw [← hval, hoff]; rfl
      rw [hoff] at c5
      clear hval hoff
      go_wp2_with fail
      go_meet
      case rel => rfl
    | false =>
      rw [hoff] at c5
      by_cases h0 : 0 ≤ f.halt
      · by_cases h1 : f.halt ≤ (f.done.length : Int)
        · obtain rfl : ob = true := by rw [← hval, hoff]; simp [h0, h1]
          have g0 : decide (0 ≤ f.halt) = true := by simpa using h0
          have g1 : decide (f.halt ≤ (f.done.length : Int)) = true := by simpa using h1
          clear hval hoff
          go_wp2_with fail
          go_meet
          case rel => rfl
        · obtain rfl : ob = false := by rw [← hval, hoff]; simp [h1]
          have g0 : decide (0 ≤ f.halt) = true := by simpa using h0
          have g1 : decide (f.halt ≤ (f.done.length : Int)) = false := by simpa using h1
          clear hval hoff
          go_wp2_with fail
          go_meet
          case rel => rfl
      · obtain rfl : ob = false := by rw [← hval, hoff]; simp [h0]
        have g0 : decide (0 ≤ f.halt) = false := by simpa using h0
        clear hval hoff
        go_wp2_with fail
        go_meet
        case rel => rfl
  case rest =>
    obtain ⟨w2, hw2⟩ : ∃ w2, w1.setCell ⟨pf, 5, none⟩ (.bool ob) = w2 := ⟨_, rfl⟩
    rw [hw2] at hcut
    subst hcut
    obtain ⟨hp1, hB1, hz1, hb1⟩ := HP1.out
    have hc2 : Chg (· = pf) w1 w2 := by rw [← hw2]; exact Chg.set _ rfl
    have hp2 := heap_set_cells (i := 5) (.bool ob) hp1
    rw [hw2] at hp2
    have hB2 := hc2.obj hB1 (by omega)
    have hcw : Chg (· = pf) w w2 := (Chg.of_below hb1).trans hc2 (fun _ h _ => h)
    have hz2 := hc2.size
    have hrw : RowAt w2 fa (f.full.map (Value.int .i64)) := by
      obtain ⟨a', c', e', hr, _⟩ := RowAt.of_owns (hcw.row H.out.full (fun b hb e => by subst e; exact H.out.pfv.1 hb))
      cases e'; exact hr
    have hse := search_any H.out.rise (f.done.length : Int) (c := fc) hrw hfl
    have d2 := cell_of_heap hp2 (i := 2) (v := .slice fa f.full.length fc) (by rfl)
    have d5 := cell_of_heap hp2 (i := 5) (v := .bool ob) (by rfl)
    have y5 := frozen_of_heap (i := 5) hB2
    have hdsk := H.out.disk.kept hcw (fun b hb e => (H.out.out b (.inl hb)).1 e) (fun b hb e => (H.out.out b (.inr hb)).1 e)
    have HP2 := Lib.hid (And.intro hp2 (And.intro hB2 (And.intro hcw hdsk)))
    have hzw : w.heap.size < w2.heap.size := by omega
    have hex := cell_of_heap hB2 (i := 5) (v := .int .i64 x.err) (by rfl)
    clear hp1 hB1 hz1 hb1 hp2 hB2 hcw hdsk hrw hw2 hc2 c0 c3 c5 z5 hc1 hz2 HP1
    obtain ⟨fb, hfb⟩ : ∃ fb, decide ((f.done.length : Int) ∈ f.full) = fb := ⟨_, rfl⟩
    rw [hfb] at hse
    have HFB := Lib.hid hfb
    clear hfb
    go_upto_block 0 with (go_at_call 91; refine hse.mono ?_; rintro _ w2' ⟨rfl, rfl⟩)
    go_cut [] from 52 to 63 (fun wx => AskMid F1 G1 w pf pd (.slice fa f.full.length fc) (.slice da f.done.length dc) f.halt e ob { x with err := (f.ask x d).2 } (f.ask x d).1.disk wx)
    case first =>
      have hval := HOB.out
      cases ob with
      | true =>
        have hr : (f.ask x d).2 = 6 ∧ (f.ask x d).1.disk = f.disk := by unfold FSt.ask; rw [if_pos hval]; exact ⟨rfl, rfl⟩
        have HR := Lib.hid hr
        have HM := Lib.hid (ask_mid2 (k := 6) hx0 (P := fun b => b = pf) (fun b hb => .inr hb) HP2.out.2.2.1 HP2.out.1 HP2.out.2.1 (fun hb => by omega) ⟨F1, G1, HP2.out.2.2.2, fun b hb => .inl hb, fun b hb => .inl hb⟩ hpl hFl)
        clear hval hr
        go_wp2
        go_meet
        case rel => rw [HR.out.1, HR.out.2]; exact HM.out
      | false =>
        cases fb with
        | true =>
          have hin : (f.done.length : Int) ∈ f.full := of_decide_eq_true HFB.out
          have hr : (f.ask x d).2 = 5 ∧ (f.ask x d).1.disk = f.disk := by unfold FSt.ask; rw [if_neg (by rw [hval]; decide), if_pos hin]; exact ⟨rfl, rfl⟩
          have HR := Lib.hid hr
          have HM := Lib.hid (ask_mid2 (k := 5) hx0 (P := fun b => b = pf) (fun b hb => .inr hb) HP2.out.2.2.1 HP2.out.1 HP2.out.2.1 (fun hb => by omega) ⟨F1, G1, HP2.out.2.2.2, fun b hb => .inl hb, fun b hb => .inl hb⟩ hpl hFl)
          clear hval hr hin
          go_wp2
          go_meet
          case rel => rw [HR.out.1, HR.out.2]; exact HM.out
        | false =>
          have hin : ¬ (f.done.length : Int) ∈ f.full := of_decide_eq_false HFB.out
          have hr : (f.ask x d).2 = (d.2 : Int) ∧ (f.ask x d).1.disk = d.1 := by unfold FSt.ask; rw [if_neg (by rw [hval]; decide), if_neg hin]; exact ⟨rfl, rfl⟩
          have HR := Lib.hid hr
          have hcl := HC.out w2 HP2.out.2.2.1 HP2.out.1 hzw
          clear hval hr hin
          go_wp2_with (refine hcl.mono ?_; rintro _ w3 ⟨rfl, F', G', ho3, hm3⟩; have hB3 := hm3.1.obj HP2.out.2.1 (fun hb => by have := H.out.disk.lt.1 _ hb; omega); have hp3 := hm3.1.obj HP2.out.1 (fun hb => (H.out.out _ (.inl hb)).1 rfl); have ex3 := cell_of_heap hB3 (i := 5) (v := .int .i64 x.err) (by rfl); have y53 := frozen_of_heap (i := 5) hB3)
          have HM := Lib.hid (ask_mid2 (k := (d.2 : Int)) hx0 (P := fun b => F1 b ∨ b = pf) (fun b hb => hb) ((HP2.out.2.2.1.mono (fun b hb _ => .inr hb)).trans hm3.1 (fun b hb _ => .inl hb)) hp3 hB3 (fun hb => hb.elim (fun hb => by have := H.out.disk.lt.1 _ hb; omega) (fun hb => by omega)) ⟨F', G', ho3, fun b hb => (hm3.2.1 b hb).1.imp id (fun h => by omega), fun b hb => (hm3.2.2 b hb).1.imp id (fun h => by omega)⟩ hpl hFl)
          go_meet
          case rel => rw [HR.out.1, HR.out.2]; exact HM.out
    case rest =>
      have hm := hcut
      obtain ⟨hcx, hpx, hbx, _⟩ := hcut
      obtain ⟨r, hr⟩ : ∃ r, (f.ask x d).2 = r := ⟨_, rfl⟩
      have heq := ask_eq f x d
      rw [hr] at hm hbx heq
      obtain ⟨de, hde⟩ : ∃ de, (f.ask x d).1.disk = de := ⟨_, rfl⟩
      rw [hde] at hm heq
      rw [HOB.out] at heq
      have HR := Lib.hid (And.intro hr heq)
      clear hr hde heq hse HP2 d2 d5 y5 hex
      have x0 := cell_of_heap hbx (i := 0) (v := .int .i64 x.op) (by rfl)
      have x1 := cell_of_heap hbx (i := 1) (v := .string ⟨x.name.toArray⟩) (by rfl)
      have x2 := cell_of_heap hbx (i := 2) (v := .string ⟨x.dst.toArray⟩) (by rfl)
      have x3 := cell_of_heap hbx (i := 3) (v := .int .i64 x.at_) (by rfl)
      have x4 := cell_of_heap hbx (i := 4) (v := .int .i64 x.size) (by rfl)
      have x5 := cell_of_heap hbx (i := 5) (v := .int .i64 r) (by rfl)
      have k4 := cell_of_heap hpx (i := 4) (v := .slice da f.done.length dc) (by rfl)
      have hrow := hcx.row H.out.done (fun b hb hO => by
        rcases hO with hO | hO
        · exact (H.out.out b (.inl hO)).2.2 hb
        · subst hO; exact H.out.pfv.2 hb)
      have hvl := fun b (hb : (Value.slice da f.done.length dc).ownBlock = some b) => (H.out.done.lt b hb).2
      have hbxl := heap_lt hbx
      have hszx := hcx.size
      have HM := Lib.hid hm
      clear hm hcx
      go_upto_region 11 with fail
      refine wp_region_held_drew (S := fun w' => w'.cell? ⟨w.heap.size, 0, none⟩ = some (.int .i64 x.op) ∧ w'.cell? ⟨w.heap.size, 1, none⟩ = some (.string ⟨x.name.toArray⟩) ∧ w'.cell? ⟨w.heap.size, 2, none⟩ = some (.string ⟨x.dst.toArray⟩) ∧ w'.cell? ⟨w.heap.size, 3, none⟩ = some (.int .i64 x.at_) ∧ w'.cell? ⟨w.heap.size, 4, none⟩ = some (.int .i64 x.size) ∧ w'.cell? ⟨w.heap.size, 5, none⟩ = some (.int .i64 r)) (by kernel_rfl) (⟨x0, x1, x2, x3, x4, x5⟩) (fun hHeld => ?_)
      refine wpAnyH_take (i := 0) (v := ?_) rfl (by kernel_rfl) (by kernel_rfl) (by kernel_rfl) (fun _ _ _ h => h) (Or.inl ⟨by rfl, ?_⟩) hHeld ?_
      rotate_left
      · intro w hSw; (try dsimp only at hSw); go_simp
        all_goals (with_reducible rfl)
      (try simp only [Act.put, List.getElem_toArray, List.getElem_cons_succ, List.getElem_cons_zero, List.setIfInBounds_toArray, List.set_cons_zero, List.set_cons_succ])
      refine wpAnyH_take (i := 1) (v := ?_) rfl (by kernel_rfl) (by kernel_rfl) (by kernel_rfl) (fun _ _ _ h => h) (Or.inl ⟨by rfl, ?_⟩) hHeld ?_
      rotate_left
      · intro w hSw; (try dsimp only at hSw); go_simp
        all_goals (with_reducible rfl)
      (try simp only [Act.put, List.getElem_toArray, List.getElem_cons_succ, List.getElem_cons_zero, List.setIfInBounds_toArray, List.set_cons_zero, List.set_cons_succ])
      refine wpAnyH_take (i := 2) (v := ?_) rfl (by kernel_rfl) (by kernel_rfl) (by kernel_rfl) (fun _ _ _ h => h) (Or.inl ⟨by rfl, ?_⟩) hHeld ?_
      rotate_left
      · intro w hSw; (try dsimp only at hSw); go_simp
        all_goals (with_reducible rfl)
      (try simp only [Act.put, List.getElem_toArray, List.getElem_cons_succ, List.getElem_cons_zero, List.setIfInBounds_toArray, List.set_cons_zero, List.set_cons_succ])
      refine wpAnyH_take (i := 3) (v := ?_) rfl (by kernel_rfl) (by kernel_rfl) (by kernel_rfl) (fun _ _ _ h => h) (Or.inl ⟨by rfl, ?_⟩) hHeld ?_
      rotate_left
      · intro w hSw; (try dsimp only at hSw); go_simp
        all_goals (with_reducible rfl)
      (try simp only [Act.put, List.getElem_toArray, List.getElem_cons_succ, List.getElem_cons_zero, List.setIfInBounds_toArray, List.set_cons_zero, List.set_cons_succ])
      refine wpAnyH_take (i := 5) (v := ?_) rfl (by kernel_rfl) (by kernel_rfl) (by kernel_rfl) (fun _ _ _ h => h) (Or.inl ⟨by rfl, ?_⟩) hHeld ?_
      rotate_left
      · intro w hSw; (try dsimp only at hSw); go_simp
        all_goals (with_reducible rfl)
      (try simp only [Act.put, List.getElem_toArray, List.getElem_cons_succ, List.getElem_cons_zero, List.setIfInBounds_toArray, List.set_cons_zero, List.set_cons_succ])
      refine wpAnyH_ready (rs := [4, 6]) (by kernel_rfl) (by simp) ?_
      refine AllReadyH.cons rfl (fun K hK => ?_) (AllReadyH.cons rfl (fun K hK => ?_) AllReadyH.nil)
      · go_simp
        refine hK.out _ _ (⟨x0, x1, x2, x3, x4, x5⟩) (fun hHeld => ?_)
        clear hK K
        (try simp only [Act.put, List.getElem_toArray, List.getElem_cons_succ, List.getElem_cons_zero, List.setIfInBounds_toArray, List.set_cons_zero, List.set_cons_succ])
        refine wpAnyH_ready (rs := [6]) (by kernel_rfl) (by simp) ?_
        refine AllReadyH.cons rfl (fun K hK => ?_) AllReadyH.nil
        go_simp
        have hca : Chg (fun _ => False) wc (wc.alloc (.cells #[.int .i64 x.op, .string ⟨x.name.toArray⟩, .string ⟨x.dst.toArray⟩, .int .i64 x.at_, .int .i64 x.size, .int .i64 r] 151)) := Chg.alloc _ _ _
        have hS3 := And.intro (hca.cell x0 (fun h => h)) (And.intro (hca.cell x1 (fun h => h)) (And.intro (hca.cell x2 (fun h => h)) (And.intro (hca.cell x3 (fun h => h)) (And.intro (hca.cell x4 (fun h => h)) (hca.cell x5 (fun h => h))))))
        have k43 := hca.cell k4 (fun h => h)
        refine hK.out _ _ (hS3) (fun hHeld => ?_)
        clear hK K
        (try simp only [Act.put, List.getElem_toArray, List.getElem_cons_succ, List.getElem_cons_zero, List.setIfInBounds_toArray, List.set_cons_zero, List.set_cons_succ])
        refine wpAnyH_ready (rs := [7]) (by kernel_rfl) (by simp) ?_
        refine AllReadyH.cons rfl (fun K hK => ?_) AllReadyH.nil
        rw [if_pos (by rfl)]
        refine wp_append_dev (.tmp 68) (.tmp 70) 77 rfl 0 151 i1 _ 6 64 Tryz.underlying77 hi1 hw0 hw1 hw2 rfl (by decide) (.slice da f.done.length dc) f.done.length _ rfl (hca.row hrow (fun _ _ h => h)) ⟨wc.heap.size, 0, none⟩ 1 1 (encFS { x with err := r }) rfl rfl (fun j u hu => by rw [addr_add]; exact cell_new wc _ _ j u (by simpa [encFS, sv] using hu)) (by simp [encFS, sv, Value.oneCell']) (by omega) (by omega) (Nat.zero_le _) ?_
        intro v5 w5 hv5 hg5 hat5
        obtain ⟨va, vc, rfl, _, _, _⟩ := ownsRow_at hv5
        replace hat5 : (Value.slice va (f.done.length + 1) vc).ownBlock = (Value.slice da f.done.length dc).ownBlock ∨ (Value.slice va (f.done.length + 1) vc).ownBlock = some (wc.heap.size + 1) := by rw [← World.size_alloc wc (.cells #[.int .i64 x.op, .string ⟨x.name.toArray⟩, .string ⟨x.dst.toArray⟩, .int .i64 x.at_, .int .i64 x.size, .int .i64 r] 151)]; exact hat5
        have hc5 : Chg (fun b => (Value.slice da f.done.length dc).ownBlock = some b) (wc.alloc (.cells #[.int .i64 x.op, .string ⟨x.name.toArray⟩, .string ⟨x.dst.toArray⟩, .int .i64 x.at_, .int .i64 x.size, .int .i64 r] 151)) w5 := ((Chg.refl (fun b => (Value.slice da f.done.length dc).ownBlock = some b) _).drew).trans (Chg.of_grown (O := fun b => (Value.slice da f.done.length dc).ownBlock = some b) hg5 (fun k e _ => e)) (fun _ h _ => h)
        have hnb : ¬ (Value.slice da f.done.length dc).ownBlock = some w.heap.size := fun hb => by have := hvl _ hb; omega
        have hS4 := And.intro (hc5.cell hS3.1 hnb) (And.intro (hc5.cell hS3.2.1 hnb) (And.intro (hc5.cell hS3.2.2.1 hnb) (And.intro (hc5.cell hS3.2.2.2.1 hnb) (And.intro (hc5.cell hS3.2.2.2.2.1 hnb) (hc5.cell hS3.2.2.2.2.2 hnb)))))
        have hp5 := hc5.obj (hca.obj hpx (fun h => h)) H.out.pfv.2
        have z54 := frozen_of_heap (i := 4) hp5
        have k45 := cell_of_heap hp5 (i := 4) (v := .slice da f.done.length dc) (by rfl)
        refine hK.out _ _ (hS4) (fun hHeld => ?_)
        clear hK K
        (try simp only [Act.put, List.getElem_toArray, List.getElem_cons_succ, List.getElem_cons_zero, List.setIfInBounds_toArray, List.set_cons_zero, List.set_cons_succ])
        refine wpAnyH_take (i := 8) (v := ?_) rfl (by kernel_rfl) (by kernel_rfl) (by kernel_rfl) (fun _ _ _ h => h) (Or.inl ⟨by rfl, ?_⟩) hHeld ?_
        rotate_left
        · intro w hSw; (try dsimp only at hSw); go_simp
          all_goals (with_reducible rfl)
        (try simp only [Act.put, List.getElem_toArray, List.getElem_cons_succ, List.getElem_cons_zero, List.setIfInBounds_toArray, List.set_cons_zero, List.set_cons_succ])
        refine wpAnyH_take (i := 9) (v := ?_) rfl (by kernel_rfl) (by kernel_rfl) (by kernel_rfl) (fun _ _ _ h => h) (Or.inl ⟨by rfl, ?_⟩) hHeld ?_
        rotate_left
        · intro w hSw; (try dsimp only at hSw); go_simp
          all_goals (with_reducible rfl)
        (try simp only [Act.put, List.getElem_toArray, List.getElem_cons_succ, List.getElem_cons_zero, List.setIfInBounds_toArray, List.set_cons_zero, List.set_cons_succ])
        refine wpAnyH_ready (rs := [10]) (by kernel_rfl) (by simp) ?_
        refine AllReadyH.cons rfl (fun K hK => ?_) AllReadyH.nil
        go_simp
        obtain ⟨w6, hw6⟩ : ∃ w6, w5.setCell ⟨pf, 4, none⟩ (.slice va (f.done.length + 1) vc) = w6 := ⟨_, rfl⟩
        rw [hw6]
        have hc6 : Chg (fun b => b = pf) w5 w6 := by rw [← hw6]; exact Chg.set _ rfl
        have hp6 := heap_set_cells (i := 4) (.slice va (f.done.length + 1) vc) hp5
        rw [hw6] at hp6
        have hne : ¬ w.heap.size = pf := by omega
        have hS5 := And.intro (hc6.cell hS4.1 hne) (And.intro (hc6.cell hS4.2.1 hne) (And.intro (hc6.cell hS4.2.2.1 hne) (And.intro (hc6.cell hS4.2.2.2.1 hne) (And.intro (hc6.cell hS4.2.2.2.2.1 hne) (hc6.cell hS4.2.2.2.2.2 hne)))))
        refine hK.out _ _ (hS5) (fun hHeld => ?_)
        clear hK K
        (try simp only [Act.put, List.getElem_toArray, List.getElem_cons_succ, List.getElem_cons_zero, List.setIfInBounds_toArray, List.set_cons_zero, List.set_cons_succ])
        refine wpAnyH_done (by kernel_rfl) ?_ _
        clear hHeld
        have e5 := hS5.2.2.2.2.2
        have hcT : Chg (fun b => b = pf ∨ (Value.slice da f.done.length dc).ownBlock = some b) wc w6 := ((hca.mono (fun _ h _ => h.elim)).trans hc5 (fun b hb _ => .inr hb)).trans hc6 (fun b hb _ => .inl hb)
        have hrow6 := hc6.row hv5 (fun b hb e => by
          subst e
          rcases hat5 with e' | e'
          · rw [e'] at hb; exact H.out.pfv.2 hb
          · rw [e'] at hb; cases hb; omega)
        have HF := Lib.hid (ask_done H.out HM.out hcT hp6 hrow6 (hat5.imp id (fun h => ⟨_, h, Nat.le_succ _⟩)))
        clear hrow6 hcT hp6 hc6 hc5 hca hp5 hv5 hS3 hS4 hS5 k43 k45 z54 hrow
        go_wp2
        go_ret
        exact ⟨by rw [HR.out.1]; rfl, by rw [HR.out.2]; exact HF.out⟩
      · go_simp
        have hca : Chg (fun _ => False) wc (wc.alloc (.cells #[.int .i64 x.op, .string ⟨x.name.toArray⟩, .string ⟨x.dst.toArray⟩, .int .i64 x.at_, .int .i64 x.size, .int .i64 r] 151)) := Chg.alloc _ _ _
        have hS3 := And.intro (hca.cell x0 (fun h => h)) (And.intro (hca.cell x1 (fun h => h)) (And.intro (hca.cell x2 (fun h => h)) (And.intro (hca.cell x3 (fun h => h)) (And.intro (hca.cell x4 (fun h => h)) (hca.cell x5 (fun h => h))))))
        have k43 := hca.cell k4 (fun h => h)
        refine hK.out _ _ (hS3) (fun hHeld => ?_)
        clear hK K
        (try simp only [Act.put, List.getElem_toArray, List.getElem_cons_succ, List.getElem_cons_zero, List.setIfInBounds_toArray, List.set_cons_zero, List.set_cons_succ])
        refine wpAnyH_ready (rs := [4]) (by kernel_rfl) (by simp) ?_
        refine AllReadyH.cons rfl (fun K hK => ?_) AllReadyH.nil
        go_simp
        refine hK.out _ _ (hS3) (fun hHeld => ?_)
        clear hK K
        (try simp only [Act.put, List.getElem_toArray, List.getElem_cons_succ, List.getElem_cons_zero, List.setIfInBounds_toArray, List.set_cons_zero, List.set_cons_succ])
        refine wpAnyH_ready (rs := [7]) (by kernel_rfl) (by simp) ?_
        refine AllReadyH.cons rfl (fun K hK => ?_) AllReadyH.nil
        rw [if_pos (by rfl)]
        refine wp_append_dev (.tmp 68) (.tmp 70) 77 rfl 0 151 i1 _ 6 64 Tryz.underlying77 hi1 hw0 hw1 hw2 rfl (by decide) (.slice da f.done.length dc) f.done.length _ rfl (hca.row hrow (fun _ _ h => h)) ⟨wc.heap.size, 0, none⟩ 1 1 (encFS { x with err := r }) rfl rfl (fun j u hu => by rw [addr_add]; exact cell_new wc _ _ j u (by simpa [encFS, sv] using hu)) (by simp [encFS, sv, Value.oneCell']) (by omega) (by omega) (Nat.zero_le _) ?_
        intro v5 w5 hv5 hg5 hat5
        obtain ⟨va, vc, rfl, _, _, _⟩ := ownsRow_at hv5
        replace hat5 : (Value.slice va (f.done.length + 1) vc).ownBlock = (Value.slice da f.done.length dc).ownBlock ∨ (Value.slice va (f.done.length + 1) vc).ownBlock = some (wc.heap.size + 1) := by rw [← World.size_alloc wc (.cells #[.int .i64 x.op, .string ⟨x.name.toArray⟩, .string ⟨x.dst.toArray⟩, .int .i64 x.at_, .int .i64 x.size, .int .i64 r] 151)]; exact hat5
        have hc5 : Chg (fun b => (Value.slice da f.done.length dc).ownBlock = some b) (wc.alloc (.cells #[.int .i64 x.op, .string ⟨x.name.toArray⟩, .string ⟨x.dst.toArray⟩, .int .i64 x.at_, .int .i64 x.size, .int .i64 r] 151)) w5 := ((Chg.refl (fun b => (Value.slice da f.done.length dc).ownBlock = some b) _).drew).trans (Chg.of_grown (O := fun b => (Value.slice da f.done.length dc).ownBlock = some b) hg5 (fun k e _ => e)) (fun _ h _ => h)
        have hnb : ¬ (Value.slice da f.done.length dc).ownBlock = some w.heap.size := fun hb => by have := hvl _ hb; omega
        have hS4 := And.intro (hc5.cell hS3.1 hnb) (And.intro (hc5.cell hS3.2.1 hnb) (And.intro (hc5.cell hS3.2.2.1 hnb) (And.intro (hc5.cell hS3.2.2.2.1 hnb) (And.intro (hc5.cell hS3.2.2.2.2.1 hnb) (hc5.cell hS3.2.2.2.2.2 hnb)))))
        have hp5 := hc5.obj (hca.obj hpx (fun h => h)) H.out.pfv.2
        have z54 := frozen_of_heap (i := 4) hp5
        have k45 := cell_of_heap hp5 (i := 4) (v := .slice da f.done.length dc) (by rfl)
        refine hK.out _ _ (hS4) (fun hHeld => ?_)
        clear hK K
        (try simp only [Act.put, List.getElem_toArray, List.getElem_cons_succ, List.getElem_cons_zero, List.setIfInBounds_toArray, List.set_cons_zero, List.set_cons_succ])
        refine wpAnyH_take (i := 8) (v := ?_) rfl (by kernel_rfl) (by kernel_rfl) (by kernel_rfl) (fun _ _ _ h => h) (Or.inl ⟨by rfl, ?_⟩) hHeld ?_
        rotate_left
        · intro w hSw; (try dsimp only at hSw); go_simp
          all_goals (with_reducible rfl)
        (try simp only [Act.put, List.getElem_toArray, List.getElem_cons_succ, List.getElem_cons_zero, List.setIfInBounds_toArray, List.set_cons_zero, List.set_cons_succ])
        refine wpAnyH_take (i := 9) (v := ?_) rfl (by kernel_rfl) (by kernel_rfl) (by kernel_rfl) (fun _ _ _ h => h) (Or.inl ⟨by rfl, ?_⟩) hHeld ?_
        rotate_left
        · intro w hSw; (try dsimp only at hSw); go_simp
          all_goals (with_reducible rfl)
        (try simp only [Act.put, List.getElem_toArray, List.getElem_cons_succ, List.getElem_cons_zero, List.setIfInBounds_toArray, List.set_cons_zero, List.set_cons_succ])
        refine wpAnyH_ready (rs := [10]) (by kernel_rfl) (by simp) ?_
        refine AllReadyH.cons rfl (fun K hK => ?_) AllReadyH.nil
        go_simp
        obtain ⟨w6, hw6⟩ : ∃ w6, w5.setCell ⟨pf, 4, none⟩ (.slice va (f.done.length + 1) vc) = w6 := ⟨_, rfl⟩
        rw [hw6]
        have hc6 : Chg (fun b => b = pf) w5 w6 := by rw [← hw6]; exact Chg.set _ rfl
        have hp6 := heap_set_cells (i := 4) (.slice va (f.done.length + 1) vc) hp5
        rw [hw6] at hp6
        have hne : ¬ w.heap.size = pf := by omega
        have hS5 := And.intro (hc6.cell hS4.1 hne) (And.intro (hc6.cell hS4.2.1 hne) (And.intro (hc6.cell hS4.2.2.1 hne) (And.intro (hc6.cell hS4.2.2.2.1 hne) (And.intro (hc6.cell hS4.2.2.2.2.1 hne) (hc6.cell hS4.2.2.2.2.2 hne)))))
        refine hK.out _ _ (hS5) (fun hHeld => ?_)
        clear hK K
        (try simp only [Act.put, List.getElem_toArray, List.getElem_cons_succ, List.getElem_cons_zero, List.setIfInBounds_toArray, List.set_cons_zero, List.set_cons_succ])
        refine wpAnyH_done (by kernel_rfl) ?_ _
        clear hHeld
        have e5 := hS5.2.2.2.2.2
        have hcT : Chg (fun b => b = pf ∨ (Value.slice da f.done.length dc).ownBlock = some b) wc w6 := ((hca.mono (fun _ h _ => h.elim)).trans hc5 (fun b hb _ => .inr hb)).trans hc6 (fun b hb _ => .inl hb)
        have hrow6 := hc6.row hv5 (fun b hb e => by
          subst e
          rcases hat5 with e' | e'
          · rw [e'] at hb; exact H.out.pfv.2 hb
          · rw [e'] at hb; cases hb; omega)
        have HF := Lib.hid (ask_done H.out HM.out hcT hp6 hrow6 (hat5.imp id (fun h => ⟨_, h, Nat.le_succ _⟩)))
        clear hrow6 hcT hp6 hc6 hc5 hca hp5 hv5 hS3 hS4 hS5 k43 k45 z54 hrow
        go_wp2
        go_ret
        exact ⟨by rw [HR.out.1]; rfl, by rw [HR.out.2]; exact HF.out⟩
end Go.Proofs.YtlmdpcaikhdenaaGreat
