/- Disk: a step with a closure; a step of the names. -/
import Derived.Test.YtgckcnnnblggbaaDk3
namespace Go.Proofs.Ytgckcnnnblggbaa
open Go.RowKit Go.Maps

set_option maxHeartbeats 1000000 in
theorem step_some {w : World} {p : Nat} {s : DSt} {R : Nat → Prop} {mf mn ms : Nat} {fb : List Nat} {vs vw : Value} {ss : List Value} {ws : List (List Value)} {e : TypeId} (h : DiskP w p s R mf mn ms fb vs vw ss ws e)
    {k : List UInt8} (hk : k.length ≤ maxLen) {n : Nat} (hf : nlFind s.names k = some n) (hd : s.done < 4611686018427387904) (N : FuncId) (caps : Array Value) (henter : ∀ args w, (callFunc N args).run Try.prog w = .ok (.enter N args) w)
    (Q : Int → World → Prop) (hcall : Calls Try.prog N (#[.int .i64 (n : Int)] ++ caps) (w.setCell ⟨p, 6, none⟩ (.int .i64 ((s.done + 1 : Nat) : Int))) fun e w' => ∃ v, e = .returned (.int .i64 v) ∧ Q v w') :
    Calls Try.prog 34 #[.pointer (some ⟨p, 0, none⟩), .string ⟨k.toArray⟩, .func (.func N) #[] caps] w fun e w' => ∃ v, e = .returned (.int .i64 v) ∧ Q v w' := by
  have hth := there_any h.cells (mn := mn) (by rfl)
  have c2 := cell_of_heap h.cells (i := 2) (v := .map (some mn)) (by rfl)
  have c6 := cell_of_heap h.cells (i := 6) (v := .int .i64 (s.done : Int)) (by rfl)
  have z6 := frozen_of_heap (i := 6) h.cells
  have hl := look_name h.tick.namesM hk
  have hl2 : nlFind s.tick.names k = some n := hf
  rw [hl2] at hl
  simp only [Option.getD_some, Option.isSome_some] at hl
  have hn : ((s.done + 1 : Nat) : Int) = (s.done : Int) + 1 := by omega
  rw [hn] at hl hcall
  generalize (s.done : Int) = d at *
  go_enter Try.func34, Try.ntmps34
  go_wp2_with (first | (go_at_call 45; refine hth.mono ?_; rintro e w1 ⟨rfl, rfl⟩) | (refine hcall.mono ?_; rintro e w1 ⟨v, rfl, hq⟩))
  go_ret
  exact ⟨_, rfl, hq⟩

end Go.Proofs.Ytgckcnnnblggbaa
