/- Texts of this claim, one behind the other: RdI, RdM. -/
import Derived.Test.YtgckcnnnblggbaaGreatSt22
import Derived.Test.YtgckcnnnblggbaaGreatSt07
import Derived.Test.YtgckcnnnblggbaaGreatSt24
set_option linter.unusedSimpArgs false
set_option linter.unusedVariables false
/- The document's disk: Read, used, Left, Texts. -/
namespace Go.Proofs.YtgckcnnnblggbaaGreat
open Go.RowKit Go.Maps

theorem Tryz.infoS9 : (Tryz.prog.info? 9).map (fun i => (i.zero, i.size, i.bytes)) = some (some (.string ⟨#[]⟩), 1, 16) := by kernel_rfl
theorem sum_take {f : List UInt8 × Nat → Nat} {l : NL} {n : Nat} {p : List UInt8 × Nat} (hp : l[n]? = some p) : ((l.take (n + 1)).map f).sum = ((l.take n).map f).sum + f p := by
  obtain ⟨h, e⟩ := List.getElem?_eq_some_iff.1 hp
  rw [List.take_succ_eq_append_getElem h, e]
  simp
theorem sum_take_le {f : List UInt8 × Nat → Nat} {M : Nat} : ∀ {l : NL}, (∀ p, f p ≤ M) → ∀ n, ((l.take n).map f).sum ≤ l.length * M
  | [], _, n => by simp
  | p :: l, h, 0 => by simp
  | p :: l, h, n + 1 => by
    have := sum_take_le (l := l) h n
    have := h p
    simp only [List.take_succ_cons, List.map_cons, List.sum_cons, List.length_cons, Nat.add_mul, Nat.one_mul]
    omega

section
variable {w : World} {r : Nat} {s : DSt} {R : Nat → Prop} {N : Nat}

set_option maxRecDepth 100000 in
set_option maxHeartbeats 2000000 in
theorem rused_any (h : RAt w r s R) (hk : s.Ok N) (hN : N ≤ 4194304) :
    Calls Tryz.prog 82 #[.pointer (some ⟨r, 0, none⟩)] w fun e w' => e = .returned (.int .i64 (s.used : Int)) ∧ ∃ n, w' = w.drewN n := by
  have hmax : maxLen = 9223372036854775807 := rfl
  have hmf : maxFile = 1099511627776 := rfl
  obtain ⟨vst, vla, vna, vsu, vsp, vwr, e, h⟩ := h
  have hn := hk.manyNames
  have hnames := hk.names
  have hb : ∀ n, ((s.names.take n).map fun p => (s.stands p.2).length).sum ≤ 4611686018427387904 := fun n => by
    have := sum_take_le (l := s.names) (f := fun p => (s.stands p.2).length) (M := maxFile) (fun p => hk.stands_le _) n
    have := Nat.mul_le_mul_right maxFile (Nat.le_trans hn hN)
    omega
  have c3 := cell_of_heap h.cells (i := 3) (v := vna) (by rfl)
  have c1 := cell_of_heap h.cells (i := 1) (v := vst) (by rfl)
  obtain ⟨na, nc, rfl, hat⟩ := h.names.1.at_
  obtain ⟨a, c, rfl, _, _, hst⟩ := h.stand
  have HB := Lib.hid hb; have HN := Lib.hid hnames; have HAT := Lib.hid hat; have HST := Lib.hid hst
  clear hb hnames hat hst
  go_enter Tryz.func82, Tryz.ntmps82
  go_wp2
  go_loopw [3, 4] (fun v i wr => ∃ n : Nat, n ≤ s.names.length ∧ i = .int .i64 n ∧ v = .int .i64 ((((s.names.take n).map fun p => (s.stands p.2).length).sum : Nat) : Int) ∧ ∃ m, wr = w.drewN m) (fun _ i _ => s.names.length - (RowKit.intOf i).toNat)
  case atStart => exact ⟨0, by omega, rfl, by simp, 0, rfl⟩
  case round =>
    obtain ⟨n, hn', rfl, rfl, m, rfl⟩ := hrel
    by_cases hlt : n < s.names.length
    · obtain ⟨p, hp⟩ : ∃ p, s.names[n]? = some p := ⟨s.names[n]'hlt, by simp⟩
      obtain ⟨g, rfl, q0, q1⟩ := HAT.out n p hp
      have hpf := (HN.out p (List.mem_of_getElem? hp)).1
      obtain ⟨g2, ua, uc, rfl, cf, _, _⟩ := HST.out p.2 hpf
      have j0 : (0 : Int) ≤ (n : Int) := by omega
      have j1 : (n : Int) < (s.names.length : Int) := by omega
      have j2 : (0 : Int) ≤ (p.2 : Int) := by omega
      have j3 : (p.2 : Int) < (s.files.length : Int) := by omega
      have hs := sum_take (f := fun p => (s.stands p.2).length) hp
      have hb1 := HB.out n
      have hb2 := HB.out (n + 1)
      have HS := Lib.hid hs
      rw [hs] at hb2
      generalize hS : ((s.names.take n).map fun p => (s.stands p.2).length).sum = S at *
      generalize (s.stands p.2).length = dl at *
      clear hp hpf hs hS
      go_wp2
      go_quiet (fail)
      go_wp2
      go_roundw
      case rel => exact ⟨n + 1, by omega, by go_num, by rw [HS.out]; go_num, _, rfl⟩
      case measure => simp [RowKit.intOf]; omega
    · obtain rfl : n = s.names.length := by omega
      have j1 : ¬ (s.names.length : Int) < (s.names.length : Int) := by omega
      go_wp2
      go_ret
      exact ⟨rfl, _, rfl⟩

set_option maxRecDepth 100000 in
set_option maxHeartbeats 2000000 in
theorem rRead_any (h : RAt w r s R) (hk : s.Ok N) (hN : N ≤ 4194304) (k : List UInt8) {at_ n : Int} (h64 : -9223372036854775808 ≤ at_ ∧ at_ < 9223372036854775808) (hn64 : -9223372036854775808 ≤ n ∧ n < 9223372036854775808) :
    Calls Tryz.prog 52 #[.pointer (some ⟨r, 0, none⟩), .string ⟨k.toArray⟩, .int .i64 at_, .int .i64 n] w fun e w' => ∃ U, e = .returned (.tuple #[U, .int .i64 ((s.read k at_ n).2 : Int)]) ∧ BytesIn w' (NewIn w w') U (s.read k at_ n).1 ∧ Below w.heap.size w w' := by
  have hmax : maxLen = 9223372036854775807 := rfl
  have hmf : maxFile = 1099511627776 := rfl
  obtain ⟨vst, vla, vna, vsu, vsp, vwr, e, h⟩ := h
  have hn := hk.manyNames
  have hnames := hk.names
  have hfl := hk.manyFiles
  have c3 := cell_of_heap h.cells (i := 3) (v := vna) (by rfl)
  have c1 := cell_of_heap h.cells (i := 1) (v := vst) (by rfl)
  have hfd := rfind_any h.names.1 k (by omega)
  obtain ⟨na, nc, rfl, _⟩ := h.names.1.at_
  obtain ⟨a, c, rfl, _, _, hst⟩ := h.stand
  cases hq : nlFind s.names k with
  | none =>
    have e1 : findI s.names k = -1 := by unfold findI; rw [hq]
    have e2 : s.read k at_ n = ([], 7) := by unfold DSt.read; rw [hq]
    rw [e1] at hfd
    rw [e2]
    clear e1 e2 hq hst hnames
    go_enter Tryz.func52, Tryz.ntmps52
    go_wp2_with (go_at_call 75; refine hfd.mono ?_; rintro _ w1 ⟨rfl, rfl⟩)
    go_ret2
    exact ⟨_, rfl, BytesIn.nil _ _, Below.refl _ _⟩
  | some f =>
    have hff := (hnames _ (nlFind_mem' hq)).1
    simp only at hff
    have e1 : findI s.names k = (f : Int) := by unfold findI; rw [hq]
    have e2 : s.read k at_ n = (if at_ < 0 ∨ n < 0 then ([], 2) else if ((s.stands f).length : Int) < at_ then ([], 4) else (((s.stands f).drop at_.toNat).take n.toNat, 0)) := by unfold DSt.read; rw [hq]
    obtain ⟨g, ua, uc, rfl, cf, hB, _⟩ := hst f hff
    have hsl := hk.stands_le f
    obtain ⟨ua', uc', eu, hu1, hu2, hurow⟩ := hB.row
    simp only [Value.slice.injEq, true_and] at eu
    obtain ⟨rfl, rfl⟩ := eu
    have j0 : ¬ (f : Int) < 0 := by omega
    have j1 : (0 : Int) ≤ (f : Int) := by omega
    have j2 : (f : Int) < (s.files.length : Int) := by omega
    rw [e1] at hfd
    rw [e2]
    generalize hL : s.stands f = L at *
    clear e1 e2 hq hst hnames hL hB
    by_cases h1 : at_ < 0
    · rw [if_pos (.inl h1)]
      go_enter Tryz.func52, Tryz.ntmps52
      go_wp2_with (go_at_call 75; refine hfd.mono ?_; rintro _ w1 ⟨rfl, rfl⟩)
      go_ret2
      exact ⟨_, rfl, BytesIn.nil _ _, Below.refl _ _⟩
    · by_cases h2 : n < 0
      · rw [if_pos (.inr h2)]
        go_enter Tryz.func52, Tryz.ntmps52
        go_wp2_with (go_at_call 75; refine hfd.mono ?_; rintro _ w1 ⟨rfl, rfl⟩)
        go_ret2
        exact ⟨_, rfl, BytesIn.nil _ _, Below.refl _ _⟩
      · rw [if_neg (by omega)]
        obtain ⟨q, rfl⟩ : ∃ q : Nat, at_ = (q : Int) := ⟨at_.toNat, by omega⟩
        obtain ⟨m, rfl⟩ : ∃ m : Nat, n = (m : Int) := ⟨n.toNat, by omega⟩
        simp only [Int.toNat_natCast]
        by_cases h3 : (L.length : Int) < (q : Int)
        · rw [if_pos h3]
          go_enter Tryz.func52, Tryz.ntmps52
          go_wp2_with (go_at_call 75; refine hfd.mono ?_; rintro _ w1 ⟨rfl, rfl⟩)
          go_ret2
          exact ⟨_, rfl, BytesIn.nil _ _, Below.refl _ _⟩
        · rw [if_neg h3]
          have hql : q ≤ L.length := by omega
          have hs1 := run_slice_loKA (P := Tryz.prog) 36 5 1 Tryz.underlying36 Tryz.sizeOf5 ua L.length uc q hql
          obtain ⟨M, hM⟩ : ∃ M, min m (L.length - q) = M := ⟨_, rfl⟩
          have hdr : RowAt w (subAtK ua uc q 1) ((L.drop q).map bv) := by
            have := RowAt.dropK hurow uc q 1 (by simp; omega)
            rwa [Nat.mul_one, ← List.map_drop] at this
          have hs2 := run_slice_hi (P := Tryz.prog) 36 5 Tryz.underlying36 Tryz.sizeOf5 (subAtK ua uc q 1) (L.length - q) (uc - q) M (by omega)
          have htl : ((L.drop q).take m).length = M := by rw [List.length_take, List.length_drop]; exact hM
          have hcp := fun W (hW : Below w.heap.size w W) => rcopied_own (subAtK ua uc q 1) (uc - q) ((L.drop q).take m) W (by intro e; unfold subAtK at e; have := hu2; split at e <;> simp_all) (by rw [List.map_take]; exact (hdr.take _).below hW) (by omega)
          have hmn : min (m : Int) ((L.length - q : Nat) : Int) = (M : Int) := by omega
          have hcp1 := hcp w (Below.refl _ _)
          have HTL := Lib.hid htl
          rw [htl] at hcp1
          clear hcp h1 h2 htl hM
          go_enter Tryz.func52, Tryz.ntmps52
          go_wp2_with (first | (go_at_call 75; refine hfd.mono ?_; rintro _ w1 ⟨rfl, rfl⟩) | (go_at_call 33; refine hcp1.mono ?_; rintro _ w1 ⟨v1, rfl, ho1, hb1⟩))
          go_ret2
          rw [← HTL.out] at ho1
          exact ⟨_, rfl, BytesIn.of_owns ho1 (fun k h1 h2 => ⟨h1, h2⟩), hb1⟩

set_option maxRecDepth 100000 in
set_option maxHeartbeats 2000000 in
theorem rLeft_any (h : RAt w r s R) (hk : s.Ok N) (hN : N ≤ 4194304) :
    Calls Tryz.prog 63 #[.pointer (some ⟨r, 0, none⟩)] w fun e w' => e = .returned (.int .i64 ((s.room - s.used : Nat) : Int)) ∧ Below w.heap.size w w' := by
  have hmf : maxFile = 1099511627776 := rfl
  have hu := sumOf_used hk
  have hu2 := Nat.mul_le_mul_right maxFile hN
  have hroom := hk.room
  have hcu := fun n => rused_any (h.kept (O := fun _ => False) (Chg.of_below (below_drewN (Below.refl w.heap.size w) n)) (fun _ _ h => h) (fun h => h)) hk hN
  obtain ⟨vst, vla, vna, vsu, vsp, vwr, e, h⟩ := h
  have c0 := cell_of_heap h.cells (i := 0) (v := .int .i64 (s.room : Int)) (by rfl)
  have e1 : IntKind.i64.wrap ((s.room : Int) - (s.used : Int)) = (s.room : Int) - (s.used : Int) := Go.IntWalk.i64_in _ (by omega)
  have e2 : max 0 ((s.room : Int) - (s.used : Int)) = ((s.room - s.used : Nat) : Int) := by omega
  clear hu hu2 hroom
  go_enter Tryz.func63, Tryz.ntmps63
  go_wp2
  go_quiet (first | (go_at_call 82; exact Calls.quiet_of (hcu _)))
  go_wp2
  go_ret
  exact ⟨rfl, below_drewN (Below.refl _ _) _⟩

set_option maxRecDepth 100000 in
set_option maxHeartbeats 2000000 in
theorem rTexts_any (h : RAt w r s R) (hk : s.Ok N) (hN : N ≤ 4194304) :
    Calls Tryz.prog 67 #[.pointer (some ⟨r, 0, none⟩)] w fun e w' => ∃ v, e = .returned v ∧ w'.ownsRow w.heap.size 9 1 v s.names.length ((s.names.map (·.1)).map sv) ∧ Below w.heap.size w w' := by
  have hmax : maxLen = 9223372036854775807 := rfl
  obtain ⟨i0, hi, hz0, hz1, hz2⟩ := info_parts Tryz.infoS9
  have hr0 := h.r_lt
  have hkeep := fun (W : World) (hW : Below w.heap.size w W) => h.kept (O := fun _ => False) (Chg.of_below hW) (fun _ _ h => h) (fun h => h)
  obtain ⟨vst, vla, vna, vsu, vsp, vwr, e, h⟩ := h
  have hn := hk.manyNames
  have hob := h.cells
  obtain ⟨na, nc, rfl, hat⟩ := h.names.1.at_
  have HAT := Lib.hid hat
  clear hat hkeep
  go_enter Tryz.func67, Tryz.ntmps67
  go_wp2
  go_loopw [3, 4] (fun v i wr => ∃ n : Nat, n ≤ s.names.length ∧ i = .int .i64 n ∧ Below w.heap.size w wr ∧ wr.ownsRow w.heap.size 9 1 v n (((s.names.take n).map (·.1)).map sv)) (fun _ i _ => s.names.length - (RowKit.intOf i).toNat)
  case atStart => exact ⟨0, by omega, rfl, Below.refl _ _, World.ownsRow_nil _ _ _ _⟩
  case round =>
    obtain ⟨n, hn', rfl, hb, hu⟩ := hrel
    have c3 := cell_of_heap ((hb.block r hr0).trans hob) (i := 3) (v := .slice na s.names.length nc) (by rfl)
    have hsz := hb.size
    by_cases hlt : n < s.names.length
    · obtain ⟨p, hp⟩ : ∃ p, s.names[n]? = some p := ⟨s.names[n]'hlt, by simp⟩
      obtain ⟨g, rfl, q0', q1'⟩ := HAT.out n p hp
      have q0 := (Chg.of_below (O := fun _ => False) hb).cell q0' (fun h => h)
      have j0 : (0 : Int) ≤ (n : Int) := by omega
      have j1 : (n : Int) < (s.names.length : Int) := by omega
      have ht : (s.names.take (n + 1)).map (·.1) = (s.names.take n).map (·.1) ++ [p.1] := by
        obtain ⟨h1, e1⟩ := List.getElem?_eq_some_iff.1 hp
        rw [List.take_succ_eq_append_getElem h1, e1]; simp
      have HT := Lib.hid ht
      clear hp ht q0' q1'
      go_wp2_with (at_builtin; refine wpList_append_any _ rfl (.tmp 18) (.tmp 27) 115 rfl w.heap.size 9 i0 (.string ⟨#[]⟩) 16 Tryz.underlying115 hi hz0 hz1 hz2 rfl _ n _ rfl (World.ownsRow.alloc hu _) (some ⟨wr.heap.size, 0, none⟩) 1 1 [sv p.1] rfl rfl (fun h => by cases h) (RowAt.of_row (fun j u hu => cell_new wr _ _ j u (by simpa [sv] using hu))) (by simp [sv, Value.oneCell']) (by omega) (by omega) (by rw [World.size_alloc]; omega) ?_; intro v2 w2 hv2 hg2)
      have hb2 : Below w.heap.size w w2 := (hb.alloc hsz _).grown hg2 (by rw [World.size_alloc]; omega) (fun r e => (hu.lt r e).1)
      go_roundw
      case rel => exact ⟨n + 1, by omega, by go_num, hb2, by rw [HT.out, List.map_append]; exact hv2⟩
      case measure => simp [RowKit.intOf]; omega
    · obtain rfl : n = s.names.length := by omega
      have j1 : ¬ (s.names.length : Int) < (s.names.length : Int) := by omega
      rw [List.take_length] at hu
      obtain ⟨ua, uc, rfl, _⟩ := RowAt.of_owns hu
      go_wp2
      go_ret
      exact ⟨_, rfl, by rw [List.map_map] at hu; exact hu, hb⟩
end

end Go.Proofs.YtgckcnnnblggbaaGreat
/- The document's disk: Write, Cut. -/
namespace Go.Proofs.YtgckcnnnblggbaaGreat
open Go.RowKit Go.Maps

/-- what was done so far, and memory that was made since -/
theorem RTurns.made {w w1 w2 : World} {r : Nat} {s0 s1 : DSt} {R : Nat → Prop} (h0 : RAt w r s0 R) (hc : Chg (· = r) w w1) (h1 : RAt w1 r s1 R) (hb : Below w1.heap.size w1 w2) : RTurns w w2 r s1 R := by
  have hrl := h0.r_lt
  obtain ⟨_, _, _, _, _, _, _, h0⟩ := h0
  have hc2 := hc.trans (Chg.of_below (O := (· = r)) hb) (fun _ h _ => h)
  have hm := rmore_ok hrl h0.rLt h0.rOut hc2.size
  have h2 := h1.kept (O := fun _ => False) (Chg.of_below hb) (fun _ _ h => h) (fun h => h)
  obtain ⟨_, _, _, _, _, _, _, h2⟩ := h2
  exact ⟨⟨_, _, _, _, _, _, _, h2.more (w' := w2) (fun b hb => .inl hb) hm.1 hm.2⟩, hc2⟩

section
variable {w : World} {r : Nat} {s : DSt} {R : Nat → Prop} {N : Nat}
set_option maxRecDepth 100000 in
set_option maxHeartbeats 4000000 in
theorem rCut_any (h : RAt w r s R) (hk : s.Ok N) (hN : N < 4194304) (k : List UInt8) {size : Int} (h64 : -9223372036854775808 ≤ size ∧ size < 9223372036854775808) :
    Calls Tryz.prog 42 #[.pointer (some ⟨r, 0, none⟩), .string ⟨k.toArray⟩, .int .i64 size] w fun e w' => e = .returned (.int .i64 ((s.cut k size).2 : Int)) ∧ RTurns w w' r (s.cut k size).1 R := by
  have hmax : maxLen = 9223372036854775807 := rfl
  have hmf : maxFile = 1099511627776 := rfl
  have h0 := h
  obtain ⟨vst, vla, vna, vsu, vsp, vwr, e, h⟩ := h
  have hd := hk.done
  have hn := hk.manyNames
  have hf := hk.manyFiles
  have hnames := hk.names
  have c7 := cell_of_heap h.cells (i := 7) (v := .int .i64 (s.done : Int)) (by rfl)
  have z7 := frozen_of_heap (i := 7) h.cells
  have e7 : IntKind.i64.wrap ((s.done : Int) + 1) = (s.done : Int) + 1 := Go.IntWalk.i64_in _ (by omega)
  have ht := h.ticked
  have hc1 : Chg (· = r) w (w.setCell ⟨r, 7, none⟩ (.int .i64 ((s.done : Int) + 1))) := Chg.set _ rfl
  obtain ⟨w1, hw1⟩ : ∃ w1, w.setCell ⟨r, 7, none⟩ (.int .i64 ((s.done : Int) + 1)) = w1 := ⟨_, rfl⟩
  rw [hw1] at ht hc1
  have c3 := cell_of_heap ht.cells (i := 3) (v := vna) (by rfl)
  have c1 := cell_of_heap ht.cells (i := 1) (v := vst) (by rfl)
  have hfd := rfind_any ht.names.1 k (by show s.names.length ≤ _; omega)
  obtain ⟨na, nc, rfl, _⟩ := h.names.1.at_
  obtain ⟨a, c, rfl, _, _, hst⟩ := ht.stand
  cases hq : nlFind s.names k with
  | none =>
    have e1 : findI s.tick.names k = -1 := by show findI s.names k = -1; unfold findI; rw [hq]
    have e2 : s.cut k size = (s.tick, 7) := by unfold DSt.cut; rw [hq]
    rw [e1] at hfd
    rw [e2]
    clear e1 e2 hq hst hnames
    go_enter Tryz.func42, Tryz.ntmps42
    go_wp2_with (first | rw [hw1] | (go_at_call 75; refine hfd.mono ?_; rintro _ w2 ⟨rfl, rfl⟩))
    go_ret
    exact ⟨rfl, RTurns.of h0 ht hc1⟩
  | some f =>
    have hff := (hnames _ (nlFind_mem' hq)).1
    simp only at hff
    have e1 : findI s.tick.names k = (f : Int) := by show findI s.names k = _; unfold findI; rw [hq]
    have e2 : s.cut k size = (if size < 0 ∨ ((s.stands f).length : Int) < size then (s.tick, 2) else (s.write ⟨f, true, size.toNat, []⟩, 0)) := by unfold DSt.cut; rw [hq]
    obtain ⟨g, ua, uc, rfl, cf, _, _⟩ := hst f hff
    change w1.cell? ⟨g, f, none⟩ = some (.slice ua (s.stands f).length uc) at cf
    have hsl := hk.stands_le f
    have j0 : ¬ (f : Int) < 0 := by omega
    have j1 : (0 : Int) ≤ (f : Int) := by omega
    have j2 : (f : Int) < (s.files.length : Int) := by omega
    rw [e1] at hfd
    rw [e2]
    clear e1 e2 hq hst hnames
    by_cases h1 : size < 0
    · rw [if_pos (.inl h1)]
      go_enter Tryz.func42, Tryz.ntmps42
      go_wp2_with (first | rw [hw1] | (go_at_call 75; refine hfd.mono ?_; rintro _ w2 ⟨rfl, rfl⟩))
      go_ret
      exact ⟨rfl, RTurns.of h0 ht hc1⟩
    · obtain ⟨q, rfl⟩ : ∃ q : Nat, size = (q : Int) := ⟨size.toNat, by omega⟩
      by_cases h2 : ((s.stands f).length : Int) < (q : Int)
      · rw [if_pos (.inr h2)]
        go_enter Tryz.func42, Tryz.ntmps42
        go_wp2_with (first | rw [hw1] | (go_at_call 75; refine hfd.mono ?_; rintro _ w2 ⟨rfl, rfl⟩))
        go_ret
        exact ⟨rfl, RTurns.of h0 ht hc1⟩
      · rw [if_neg (by omega)]
        have hset := rset_any ⟨_, _, _, _, _, _, _, ht⟩ hk.ticked (by omega) (x := ⟨f, true, q, []⟩) (vx := .agg #[.int .i64 (f : Int), .bool true, .int .i64 (q : Int), .slice none 0 0]) ⟨_, rfl, BytesIn.nil _ _⟩ hff (by simp only [List.length_nil]; omega)
        go_enter Tryz.func42, Tryz.ntmps42
        go_wp2_with (first | rw [hw1] | (go_at_call 75; refine hfd.mono ?_; rintro _ w2 ⟨rfl, rfl⟩) | (go_at_call 83; refine hset.mono ?_; rintro _ w2 ⟨rfl, ht2⟩))
        go_ret
        exact ⟨rfl, RTurns.after h0 hc1 ht2⟩

set_option maxRecDepth 100000 in
set_option maxHeartbeats 8000000 in
theorem rWrite_any (h : RAt w r s R) (hk : s.Ok N) (hN : N < 4194304) (k : List UInt8) {at_ : Int} {xa : Option Addr} {xc : Nat} {l : List UInt8} (hrow : RowAt w xa (l.map bv)) (hxr : ∀ y, xa = some y → l ≠ [] → y.block ≠ r) (hnil : xa = none → xc = 0) (hl : l.length ≤ 140737488355328) (h64 : -9223372036854775808 ≤ at_ ∧ at_ < 9223372036854775808) :
    Calls Tryz.prog 38 #[.pointer (some ⟨r, 0, none⟩), .string ⟨k.toArray⟩, .int .i64 at_, .slice xa l.length xc] w fun e w' => e = .returned (.int .i64 ((s.put k at_ l).2 : Int)) ∧ RTurns w w' r (s.put k at_ l).1 R := by
  have hmax : maxLen = 9223372036854775807 := rfl
  have hmf : maxFile = 1099511627776 := rfl
  have h0 := h
  obtain ⟨vst, vla, vna, vsu, vsp, vwr, e, h⟩ := h
  have hd := hk.done
  have hn := hk.manyNames
  have hf := hk.manyFiles
  have hnames := hk.names
  have c7 := cell_of_heap h.cells (i := 7) (v := .int .i64 (s.done : Int)) (by rfl)
  have z7 := frozen_of_heap (i := 7) h.cells
  have e7 : IntKind.i64.wrap ((s.done : Int) + 1) = (s.done : Int) + 1 := Go.IntWalk.i64_in _ (by omega)
  have ht := h.ticked
  have hc1 : Chg (· = r) w (w.setCell ⟨r, 7, none⟩ (.int .i64 ((s.done : Int) + 1))) := Chg.set _ rfl
  obtain ⟨w1, hw1⟩ : ∃ w1, w.setCell ⟨r, 7, none⟩ (.int .i64 ((s.done : Int) + 1)) = w1 := ⟨_, rfl⟩
  rw [hw1] at ht hc1
  have hrow1 : RowAt w1 xa (l.map bv) := fun hx => by
    obtain ⟨b, off, rfl, hcell⟩ := hrow hx
    exact ⟨b, off, rfl, fun j u hu => hc1.cell (hcell j u hu) (show ¬ b = r from hxr ⟨b, off, none⟩ rfl (by intro e; subst e; exact hx rfl))⟩
  have c3 := cell_of_heap ht.cells (i := 3) (v := vna) (by rfl)
  have c1 := cell_of_heap ht.cells (i := 1) (v := vst) (by rfl)
  have hfd := rfind_any ht.names.1 k (by show s.names.length ≤ _; omega)
  have hcu : ∀ n, Calls Tryz.prog 82 #[.pointer (some ⟨r, 0, none⟩)] (w1.drewN n) (fun e w' => e = .returned (.int .i64 (s.used : Int)) ∧ ∃ m, w' = (w1.drewN n).drewN m) := fun n => rused_any (s := s.tick) (N := N + 1) ((show RAt w1 r s.tick R from ⟨_, _, _, _, _, _, _, ht⟩).kept (O := fun _ => False) (Chg.of_below (below_drewN (Below.refl w1.heap.size w1) n)) (fun _ _ h => h) (fun h => h)) hk.ticked (by omega)
  obtain ⟨na, nc, rfl, _⟩ := h.names.1.at_
  obtain ⟨a, c, rfl, _, _, hst⟩ := ht.stand
  cases hq : nlFind s.names k with
  | none =>
    have e1 : findI s.tick.names k = -1 := by show findI s.names k = -1; unfold findI; rw [hq]
    have e2 : s.put k at_ l = (s.tick, 7) := by unfold DSt.put; rw [hq]
    rw [e1] at hfd
    rw [e2]
    clear e1 e2 hq hst hnames hcu
    go_enter Tryz.func38, Tryz.ntmps38
    go_wp2_with (first | rw [hw1] | (go_at_call 75; refine hfd.mono ?_; rintro _ w2 ⟨rfl, rfl⟩))
    go_ret
    exact ⟨rfl, RTurns.of h0 ht hc1⟩
  | some f =>
    have hm := nlFind_mem' hq
    have hff := (hnames _ hm).1
    simp only at hff
    have hge := used_ge hm
    simp only at hge
    have hroom := hk.room
    have e1 : findI s.tick.names k = (f : Int) := by show findI s.names k = _; unfold findI; rw [hq]
    have e2 : s.put k at_ l = (if at_ < 0 ∨ ((s.stands f).length : Int) < at_ then (s.tick, 2) else if (s.stands f).length < at_.toNat + l.length ∧ s.room < s.used + (at_.toNat + l.length - (s.stands f).length) then (s.tick, 5) else (s.write ⟨f, false, at_.toNat, l⟩, 0)) := by unfold DSt.put; rw [hq]
    obtain ⟨g, ua, uc, rfl, cf, _, _⟩ := hst f hff
    change w1.cell? ⟨g, f, none⟩ = some (.slice ua (s.stands f).length uc) at cf
    have hsl := hk.stands_le f
    have j0 : ¬ (f : Int) < 0 := by omega
    have j1 : (0 : Int) ≤ (f : Int) := by omega
    have j2 : (f : Int) < (s.files.length : Int) := by omega
    rw [e1] at hfd
    rw [e2]
    clear e1 e2 hq hst hnames hm
    by_cases h1 : at_ < 0
    · rw [if_pos (.inl h1)]
      clear hcu
      go_enter Tryz.func38, Tryz.ntmps38
      go_wp2_with (first | rw [hw1] | (go_at_call 75; refine hfd.mono ?_; rintro _ w2 ⟨rfl, rfl⟩))
      go_ret
      exact ⟨rfl, RTurns.of h0 ht hc1⟩
    · obtain ⟨q, rfl⟩ : ∃ q : Nat, at_ = (q : Int) := ⟨at_.toNat, by omega⟩
      by_cases h2 : ((s.stands f).length : Int) < (q : Int)
      · rw [if_pos (.inr h2)]
        clear hcu
        go_enter Tryz.func38, Tryz.ntmps38
        go_wp2_with (first | rw [hw1] | (go_at_call 75; refine hfd.mono ?_; rintro _ w2 ⟨rfl, rfl⟩))
        go_ret
        exact ⟨rfl, RTurns.of h0 ht hc1⟩
      · rw [if_neg (by omega)]
        simp only [Int.toNat_natCast]
        have hu1 := sumOf_used hk
        have hu2 := Nat.mul_le_mul_right maxFile (show N ≤ 4194304 by omega)
        have c0 := cell_of_heap ht.cells (i := 0) (v := .int .i64 (s.room : Int)) (by rfl)
        have e10 : IntKind.i64.wrap ((q : Int) + (l.length : Int)) = (q : Int) + (l.length : Int) := Go.IntWalk.i64_in _ (by omega)
        obtain ⟨M, hM⟩ : ∃ M : Int, (q : Int) + (l.length : Int) - ((s.stands f).length : Int) = M := ⟨_, rfl⟩
        have e11 : IntKind.i64.wrap ((q : Int) + (l.length : Int) - ((s.stands f).length : Int)) = M := by rw [hM]; exact Go.IntWalk.i64_in _ (by omega)
        have hcp := fun (W : World) (hW : Below w1.heap.size w1 W) => rcopied_own xa xc l W hnil (hrow1.below hW) hl
        have hsz1 := hc1.size
        have HT := Lib.hid (show RAt w1 r s.tick R from ⟨_, _, _, _, _, _, _, ht⟩)
        by_cases h3 : 0 < M
        · have hgd : decide (M > 0) = true := by simpa using h3
          have e12 : IntKind.i64.wrap ((s.used : Int) + M) = (s.used : Int) + M := Go.IntWalk.i64_in _ (by omega)
          by_cases h4 : (s.room : Int) < (s.used : Int) + M
          · rw [if_pos (by omega)]
            clear hM hge hu1 hu2 hroom hsl hcp
            go_enter Tryz.func38, Tryz.ntmps38
            go_wp2_with (first | rw [hw1] | (go_at_call 75; refine hfd.mono ?_; rintro _ w2 ⟨rfl, rfl⟩))
            go_quiet (first | (go_at_call 82; exact Calls.quiet_of (hcu _)))
            go_wp2
            go_ret
            exact ⟨rfl, RTurns.made h0 hc1 HT.out (below_drewN (Below.refl _ _) _)⟩
          · rw [if_neg (by omega)]
            have hlen : q + l.length ≤ maxFile := by omega
            clear hM hge hu1 hu2 hroom hsl
            go_enter Tryz.func38, Tryz.ntmps38
            go_wp2_with (first | rw [hw1] | (go_at_call 75; refine hfd.mono ?_; rintro _ w2 ⟨rfl, rfl⟩))
            go_quiet (first | (go_at_call 82; exact Calls.quiet_of (hcu _)))
            go_wp2_with (first | (go_at_call 33; refine (hcp _ (below_drewN (Below.refl _ _) _)).mono ?_; rintro _ w2 ⟨v2, rfl, ho2, hb2⟩; replace hb2 : Below w1.heap.size w1 w2 := (below_drewN (Below.refl _ _) _).trans hb2; replace ho2 : w2.ownsRow w1.heap.size 5 1 v2 l.length (l.map bv) := ho2; obtain ⟨va2, vc2, rfl, _, _⟩ := RowAt.of_owns ho2; have hT := RTurns.made h0 hc1 HT.out hb2; have hz2 := hb2.size; have hset := rset_any hT.1 hk.ticked (by omega) (x := ⟨f, false, q, l⟩) (vx := .agg #[.int .i64 (f : Int), .bool false, .int .i64 (q : Int), .slice va2 l.length vc2]) ⟨_, rfl, BytesIn.of_owns ho2 (fun b h1 h2 => .inr ⟨by omega, h2⟩)⟩ hff hlen) | (go_at_call 83; refine hset.mono ?_; rintro _ w3 ⟨rfl, ht3⟩))
            go_ret
            exact ⟨rfl, RTurns.trans h0 hT ht3⟩
        · rw [if_neg (by omega)]
          have hgd : decide (M > 0) = false := by simpa using h3
          have hlen : q + l.length ≤ maxFile := by omega
          clear hM hge hu1 hu2 hroom hsl
          go_enter Tryz.func38, Tryz.ntmps38
          go_wp2_with (first | rw [hw1] | (go_at_call 75; refine hfd.mono ?_; rintro _ w2 ⟨rfl, rfl⟩))
          go_quiet (fail)
          go_wp2_with (first | (go_at_call 33; refine (hcp _ (below_drewN (Below.refl _ _) _)).mono ?_; rintro _ w2 ⟨v2, rfl, ho2, hb2⟩; replace hb2 : Below w1.heap.size w1 w2 := (below_drewN (Below.refl _ _) _).trans hb2; replace ho2 : w2.ownsRow w1.heap.size 5 1 v2 l.length (l.map bv) := ho2; obtain ⟨va2, vc2, rfl, _, _⟩ := RowAt.of_owns ho2; have hT := RTurns.made h0 hc1 HT.out hb2; have hz2 := hb2.size; have hset := rset_any hT.1 hk.ticked (by omega) (x := ⟨f, false, q, l⟩) (vx := .agg #[.int .i64 (f : Int), .bool false, .int .i64 (q : Int), .slice va2 l.length vc2]) ⟨_, rfl, BytesIn.of_owns ho2 (fun b h1 h2 => .inr ⟨by omega, h2⟩)⟩ hff hlen) | (go_at_call 83; refine hset.mono ?_; rintro _ w3 ⟨rfl, ht3⟩))
          go_ret
          exact ⟨rfl, RTurns.trans h0 hT ht3⟩
end

end Go.Proofs.YtgckcnnnblggbaaGreat
