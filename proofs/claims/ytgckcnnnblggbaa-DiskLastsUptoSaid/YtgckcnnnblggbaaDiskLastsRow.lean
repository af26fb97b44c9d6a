/- DiskLasts: the row of the statement round its walk. -/
import Derived.Test.YtgckcnnnblggbaaDxM
import Derived.Test.YtgckcnnnblggbaaRows
import Derived.WalkKit
import Derived.ProofKit
import Derived.OpenShut
import Derived.ShutString
import Derived.ChangeOld
import Derived.JoinedCond
import Derived.Below
import Derived.Lib.SmallJoins
namespace Go.Proofs.Ytgckcnnnblggbaa.diskLasts
open Go.ChangeShapes Go.WideShapes Go.ChangeAt Go.RowKit
open Go.ChangeMaps (open_string shut_string)
set_option linter.unusedVariables false

theorem own : ownKnob Try.prog.godebug = none := by kernel_rfl
theorem laidOut : laidOutB Try.prog = true := by kernel_rfl

theorem cellsStart : Try.prog.cellsOf 41 = 2 := by kernel_rfl
theorem cellsStop : Try.prog.cellsOf 38 = 3 := by kernel_rfl
theorem le_sum (L : List (List UInt8 × List UInt8)) : ∀ p ∈ L, p.2.length ≤ (L.map fun p => p.2.length).sum := by
  induction L with
  | nil => intro p hp; cases hp
  | cons x r ih =>
    intro p hp
    rw [List.map_cons, List.sum_cons]
    rcases List.mem_cons.1 hp with rfl | h
    · omega
    · have := ih p h; omega

set_option maxRecDepth 100000 in
theorem lifted (os : Os) (started : os.Started) (H : Type) (enc : TypeId × Value → H) (F : Stop.Interp) :
    ReturnsInHanded {} Try.checked os 5 .any ((Rows.OpenSpec.upto Rows.diskLastsSpec).pre6 enc Try.prog Try.f5 Rows.diskLastsUptoRow.domain false) (((Rows.OpenSpec.upto Rows.diskLastsSpec).at F).post enc Try.prog Try.f5 false true false false) := by
  refine returnsInHanded_of_cond (C := Try.checked) (s := Rows.OpenSpec.upto Rows.diskLastsSpec) (k := Rows.uptoSmall) rfl own started (by kernel_rfl) Try.func5
    (OpenSpec.witness (enc := enc) (C := Try.checked) (s := Rows.OpenSpec.upto Rows.diskLastsSpec) (k := Rows.uptoSmall) rfl false ⟨#[], #[.agg #[.int .i64 0, .slice none 0 0], .slice none 0 0, .slice none 0 0, .slice none 0 0, .agg #[.int .i64 0, .slice none 0 0, .int .i64 0]], []⟩ 8 (by kernel_rfl) (by kernel_rfl) (by kernel_rfl)
      (x := ([.agg [.lit (.int .i64 0), .nil], .nil, .nil, .nil, .agg [.lit (.int .i64 0), .nil, .lit (.int .i64 0)]], [], [])) (by kernel_rfl) rfl (by kernel_rfl)) ?_
  intro W base args ds gs before hval0 hW _ hk _
  have hval : ∀ (j : Nat) t v, Try.f5.params[j]? = some t → args[j]? = some v → Value.okWide Try.prog W .any base t v := hval0
  have hW' := hW
  obtain ⟨p, q, hA0, hV, rfl, hfz, hnd⟩ := hW
  have hA : DataW.TrodAll enc Try.prog W 0 (fun _ => true) true Try.f5.params.toList args.toList ds p := hA0
  rw [Try.params5] at hA hval
  obtain ⟨v0, vs0, d0, ds0, p0, q0, hargs, rfl, rfl, h0, r0⟩ := trodAll_cons hA
  obtain ⟨v1, vs1, d1, ds1, p1, q1, rfl, rfl, rfl, h1, r1⟩ := trodAll_cons r0
  obtain ⟨v2, vs2, d2, ds2, p2, q2, rfl, rfl, rfl, h2, r2⟩ := trodAll_cons r1
  obtain ⟨v3, vs3, d3, ds3, p3, q3, rfl, rfl, rfl, h3, r3⟩ := trodAll_cons r2
  obtain ⟨v4, vs4, d4, ds4, p4, q4, rfl, rfl, rfl, h4, r4⟩ := trodAll_cons r3
  obtain ⟨rfl, rfl, rfl⟩ := trodAll_nil r4
  obtain rfl : args = #[v0, v1, v2, v3, v4] := by cases args; simp_all
  obtain ⟨rfl, rfl⟩ := trodVars_none hV
  have k0 := h0
  have lt0 : ∀ x ∈ p0, x.block < W.heap.size := by obtain ⟨m, hm⟩ := k0; exact DataW.trod_lt m _ _ _ hm
  have hB := bulks.bound hk
  simp only [List.cons_append, List.nil_append, Rows.uptoBulkAll] at hB
  obtain ⟨c0, c1, y0, y1, m0, rfl, hd0, hp0, hy0, hy1⟩ := Joins.open_agg2 Try.underlying41 (by kernel_rfl) cellsStart (hval 0 41 v0 rfl rfl) h0
  obtain ⟨a0, e0, _, _⟩ := DataW.trod_int Try.underlying2 hy0
  have e0 := (List.cons.inj e0).1
  subst e0
  obtain ⟨fa, fc, L, rfl, hAf, hLn, hLb⟩ := op_files hy1
  have hb0 : Rows.uptoBulk y1.1 ≤ Rows.uptoBulk d0 := by rw [hd0]; simp only [Rows.uptoBulk, Rows.uptoBulkAll]; omega
  have k1 := h1
  have lt1 : ∀ x ∈ p1, x.block < W.heap.size := by obtain ⟨m, hm⟩ := k1; exact DataW.trod_lt m _ _ _ hm
  obtain ⟨sa1, sl1, sc1, rfl⟩ := okWide_slice Try.underlying42 (hval 1 42 v1 rfl rfl)
  obtain ⟨fu1, hf1⟩ := h1
  have hg1 : DataW.trod enc Try.prog W 0 (fun _ => true) true fu1 42 [.slice sa1 sl1 sc1] = some (d1, p1) := by simpa [Value.cells] using hf1
  obtain ⟨aa, ac, xs, es1, hxs, hxo, hxb⟩ := op_steps hg1 (by simp only; omega)
  simp only [Value.slice.injEq] at es1
  obtain ⟨rfl, rfl, rfl⟩ := es1
  have k2 := h2
  have lt2 : ∀ x ∈ p2, x.block < W.heap.size := by obtain ⟨m, hm⟩ := k2; exact DataW.trod_lt m _ _ _ hm
  obtain ⟨sa2, sl2, sc2, rfl⟩ := okWide_slice Try.underlying28 (hval 2 28 v2 rfl rfl)
  obtain ⟨fu2, hf2⟩ := h2
  have hg2 : DataW.trod enc Try.prog W 0 (fun _ => true) true fu2 28 [.slice sa2 sl2 sc2] = some (d2, p2) := by simpa [Value.cells] using hf2
  obtain ⟨da, dc, data, es2, hdn, hdat, hdb⟩ := op_bytes hg2
  simp only [Value.slice.injEq] at es2
  obtain ⟨rfl, rfl, rfl⟩ := es2
  have k3 := h3
  have lt3 : ∀ x ∈ p3, x.block < W.heap.size := by obtain ⟨m, hm⟩ := k3; exact DataW.trod_lt m _ _ _ hm
  obtain ⟨sa3, sl3, sc3, rfl⟩ := okWide_slice Try.underlying42 (hval 3 42 v3 rfl rfl)
  obtain ⟨fu3, hf3⟩ := h3
  have hg3 : DataW.trod enc Try.prog W 0 (fun _ => true) true fu3 42 [.slice sa3 sl3 sc3] = some (d3, p3) := by simpa [Value.cells] using hf3
  obtain ⟨ba, bc, ys, es3, hys, hyo, hyb⟩ := op_steps hg3 (by simp only; omega)
  simp only [Value.slice.injEq] at es3
  obtain ⟨rfl, rfl, rfl⟩ := es3
  have k4 := h4
  have lt4 : ∀ x ∈ p4, x.block < W.heap.size := by obtain ⟨m, hm⟩ := k4; exact DataW.trod_lt m _ _ _ hm
  obtain ⟨u0, u1, u2, z0, z1, z2, m4, rfl, hd4, hp4, hz0, hz1, hz2⟩ := Joins.open_agg3 Try.underlying38 (by kernel_rfl) cellsStop (hval 4 38 v4 rfl rfl) h4
  obtain ⟨sn, f0, _, _⟩ := DataW.trod_int Try.underlying3 hz0
  obtain ⟨st, f2, _, wst⟩ := DataW.trod_int Try.underlying3 hz2
  have f0 := (List.cons.inj f0).1
  have f2 := (List.cons.inj f2).1
  subst f0 f2
  obtain ⟨ka, kc, keep, rfl, hkr, hkl⟩ := op_bools hz1
  have hst := (i64_of_wf wst).2
  clear hA0 hval0
  refine (diskLasts_walk hAf hxs hys hdat hdn hkr hxo hyo hkl (by omega) hLn (le_sum L) (by simp only at hxb hdb hyb; omega)).mono fun e W' ⟨he, bel⟩ => ?_
  subst he
  exact ⟨_, rfl, _, _, _, [], _, [], hW', trodAll_mk1 (shut_bool Try.underlying4 _), (trodAll_cons_mk (Below.trod laidOut (by kernel_rfl) (of_decide_eq_true (by kernel_rfl)) k0 bel lt0) (trodAll_cons_mk (Below.trod laidOut (by kernel_rfl) (of_decide_eq_true (by kernel_rfl)) k1 bel lt1) (trodAll_cons_mk (Below.trod laidOut (by kernel_rfl) (of_decide_eq_true (by kernel_rfl)) k2 bel lt2) (trodAll_cons_mk (Below.trod laidOut (by kernel_rfl) (of_decide_eq_true (by kernel_rfl)) k3 bel lt3) (trodAll_cons_mk (Below.trod laidOut (by kernel_rfl) (of_decide_eq_true (by kernel_rfl)) k4 bel lt4) trodAll_mk0))))), rfl, bel.frame _, fun h => by cases h⟩

theorem over : Rows.diskLastsUptoRow.holds Try.pinned (Rows.OpenSpec.upto Rows.diskLastsSpec) :=
  OpenClaim.holds_of_cond 5 Try.f5 rfl rfl rfl rfl rfl rfl rfl ⟨rfl, rfl, rfl, rfl, rfl⟩ rfl rfl rfl rfl rfl (by kernel_rfl) Try.func5 (by kernel_rfl)
    (of_decide_eq_true (by kernel_rfl)) (by unfold Func.isWrapper; first | (rw [if_pos (by decide +kernel)]; kernel_rfl) | (rw [if_neg (by decide +kernel)]; exact ⟨rfl, rfl⟩))
    (fun os started H enc _ F => lifted os started H enc F)

theorem proved : Rows.DiskLastsUptoSaid := over
end Go.Proofs.Ytgckcnnnblggbaa.diskLasts
