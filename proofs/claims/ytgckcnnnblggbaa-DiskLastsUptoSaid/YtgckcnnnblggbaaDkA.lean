/- Disk: what a pending write does to bytes. -/
import Derived.Test.YtgckcnnnblggbaaDk9
namespace Go.Proofs.Ytgckcnnnblggbaa
open Go.RowKit Go.Maps

/-- WHAT A WRITE's CLOSURE DOES TO BYTES -/
def DoesLay (v : Value) (x : Wr) (n : Nat) (vb : Value) (l : List UInt8) (R : Nat → Prop) (w : World) : Prop :=
  ∃ N caps, v = .func (.func N) #[] caps ∧ enters N ∧ Calls Try.prog N (#[vb, .int .i64 (n : Int)] ++ caps) w fun e w' => ∃ u, e = .returned u ∧ BytesIn w' (fun b => R b ∨ NewIn w w' b) u (laid l x n) ∧ Below w.heap.size w w'
theorem enters_cut : enters 43 := fun args w => by go_simp
theorem enters_write : enters 38 := fun args w => by go_simp
theorem BytesIn.mono {w : World} {R R' : Nat → Prop} {v : Value} {l : List UInt8} (h : BytesIn w R v l) (hR : ∀ b, R b → R' b) : BytesIn w R' v l := h.kept (Chg.refl (fun _ => False) w) (fun _ _ h => h) hR

set_option maxRecDepth 100000 in
set_option maxHeartbeats 1000000 in
theorem cut_lays {w : World} {R : Nat → Prop} {v : Value} {x : Wr} {n : Nat} {vb : Value} {l : List UInt8} (hv : LayIn w R v x) (hx : x.cut = true) (hb : BytesIn w R vb l) (hl : l.length ≤ 2199023255552) (hp : x.place ≤ 2199023255552) : DoesLay v x n vb l R w := by
  unfold LayIn at hv
  rw [if_pos hx] at hv
  obtain ⟨y, rfl, ⟨b1, rfl, _, c1⟩⟩ := hv
  obtain ⟨a, c, rfl, hle, hnil, hrow⟩ := hb.row
  refine ⟨_, _, rfl, enters_cut, ?_⟩
  have he : laid l x n = l.take x.place := by unfold laid; rw [if_pos hx]
  rw [he]
  generalize x.place = q at *
  clear hx
  by_cases hq : q ≤ l.length
  · have hsl := run_slice_hi (P := Try.prog) 28 5 Try.underlying28 Try.sizeOf5 a l.length c q (by omega)
    have hC := clone_any a c (l.take q)
    rw [show (l.take q).length = q from by simp; omega] at hC
    have hr2 := hrow.take q
    rw [← List.map_take] at hr2
    have HC := Lib.hid hC; clear hC
    go_enter Try.func43, Try.ntmps43
    go_wp2_with (go_at_call 32; refine (HC.out _ hnil hr2 (by omega)).mono ?_; rintro e1 w1 ⟨u, rfl, hu, hbel⟩)
    all_goals
      first
      | (exfalso; omega)
      | (go_ret
         exact ⟨_, rfl, hu.mono (fun b h => .inr h), hbel⟩)
  · have ht : l.take q = l := List.take_of_length_le (by omega)
    rw [ht]
    have hsl := run_slice_hi (P := Try.prog) 28 5 Try.underlying28 Try.sizeOf5 a l.length c l.length (by omega)
    have HC := Lib.hid (clone_any a c l)
    go_enter Try.func43, Try.ntmps43
    go_wp2_with (go_at_call 32; refine (HC.out _ hnil hrow (by omega)).mono ?_; rintro e1 w1 ⟨u, rfl, hu, hbel⟩)
    all_goals
      first
      | (exfalso; omega)
      | (go_ret
         exact ⟨_, rfl, hu.mono (fun b h => .inr h), hbel⟩)

end Go.Proofs.Ytgckcnnnblggbaa
