/- Texts of this claim, one behind the other: RdR. -/
import Derived.Test.YtgckcnnnblggbaaGreatSt28
import Derived.Test.YtgckcnnnblggbaaGreatSt29
import Derived.BigQuiet
import Derived.Deep.CutRange
set_option linter.unusedSimpArgs false
set_option linter.unusedVariables false
/- The document's disk: Of. (printed by gen/rof.py) -/
namespace Go.Proofs.YtgckcnnnblggbaaGreat
open Go.RowKit Go.Maps

theorem OfR.drew {w wr : World} {po cap i j k : Nat} {L : List (List UInt8 × List UInt8)} {vst vla vna : Value} {xs ys : List Value} (h : OfR w wr po cap L i j k vst vla vna xs ys) (n : Nat) : OfR w (wr.drewN n) po cap L i j k vst vla vna xs ys :=
  ⟨below_drewN h.hb n, h.lo, h.cells, h.st, h.la, h.na, h.xst, h.yla, h.ap1, h.ap2, h.ap3⟩
/-- is the k-th file bad? -/
noncomputable def ofBad (L : List (List UInt8 × List UInt8)) (k : Nat) : Bool := match L[k]? with
  | none => false
  | some x => !nameOk x.1 || (match k with
    | 0 => false
    | k + 1 => match L[k]? with
      | none => false
      | some y => !bytesBefore y.1 x.1)
theorem ofBad_true {L : List (List UInt8 × List UInt8)} {k : Nat} (h : ofBad L k = true) : ¬ NamesGood L := by
  unfold ofBad at h
  split at h
  · cases h
  · rename_i x hx
    cases hn : nameOk x.1 with
    | false => exact good_bad_name hx hn
    | true =>
      rw [hn] at h
      simp only [Bool.not_true, Bool.false_or] at h
      split at h
      · cases h
      · split at h
        · cases h
        · rename_i y hy
          exact good_bad_pair hx hy (by simpa using h)
theorem ofBad_false {L : List (List UInt8 × List UInt8)} {k : Nat} (hg : NamesGood (L.take k)) (hk : k < L.length) (h : ofBad L k = false) : NamesGood (L.take (k + 1)) := by
  unfold ofBad at h
  rw [List.getElem?_eq_getElem hk] at h
  simp only [Bool.or_eq_false_iff] at h
  obtain ⟨h1, h2⟩ := h
  have h1 : nameOk L[k].1 = true := by simpa using h1
  cases k with
  | zero => exact good_first (by simp) h1
  | succ k =>
    simp only [List.getElem?_eq_getElem (show k < L.length by omega)] at h2
    exact good_next hg (x := L[k + 1]) (y := L[k]'(by omega)) (by simp) (by simp) h1 (by simpa using h2)

theorem rOf_no (cap : Int) (hc : cap < 0 ∨ 1099511627776 < cap) (v : Value) (w : World) (hv : ∃ a n c, v = .slice a n c) : Calls Tryz.prog 7 #[.int .i64 cap, v] w fun e w' => e = .returned (.tuple #[.pointer none, .int .i64 2]) ∧ w = w' := by
  obtain ⟨a, n, c, rfl⟩ := hv
  have hN := rNew_no cap hc w
  go_enter Tryz.func7, Tryz.ntmps7
  go_wp2_with (go_at_call 23; refine hN.mono ?_; rintro _ w1 ⟨rfl, rfl⟩)
  go_ret2
  exact ⟨rfl, rfl⟩

theorem ofR_done {w wr w5 : World} {cap : Nat} {L : List (List UInt8 × List UInt8)} {vst vla vna v5 : Value} {xs ys : List Value} (h : OfR w wr w.heap.size cap L L.length L.length L.length vst vla vna xs ys) (h5 : w5.ownsRow wr.heap.size 88 2 v5 L.length (((ofNames L).map encN).flatten)) (hc5 : Chg (fun _ => False) wr w5) :
    ∃ R, RAt (w5.setCell ⟨w.heap.size, 4, none⟩ v5) w.heap.size (DSt.ofFiles cap L) R ∧ (∀ b, R b → w.heap.size ≤ b) ∧ Below w.heap.size w (w5.setCell ⟨w.heap.size, 4, none⟩ v5) := by
  have hob5 := hc5.obj h.cells (fun h => h)
  have hcell := heap_set_cells (i := 4) v5 hob5
  have hset : Chg (· = w.heap.size) w5 (w5.setCell ⟨w.heap.size, 4, none⟩ v5) := Chg.set _ rfl
  generalize w5.setCell ⟨w.heap.size, 4, none⟩ v5 = w6 at *
  have hr6 : Chg (· = w.heap.size) wr w6 := (hc5.mono (O' := (· = w.heap.size)) (fun _ h _ => h.elim)).trans hset (fun _ h _ => h)
  have hb6 : Below w.heap.size w w6 := ((Chg.of_below (O := (· = w.heap.size)) h.hb).trans hr6 (fun _ h _ => h)).below (fun k e => Nat.le_of_eq e.symm)
  have hs1 := h.hb.size
  have hs2 := hr6.size
  have hs5 := hc5.size
  have hs6 := hset.size
  have hpo := heap_lt h.cells
  have hn := h.na
  rw [List.take_length] at hn
  have hl0 : (ofNames L).length = L.length := ofNames_len L
  refine ⟨fun b => w.heap.size ≤ b ∧ b < w6.heap.size ∧ b ≠ w.heap.size, ⟨vst, vla, vna, v5, .slice none 0 0, .slice none 0 0, 86, ?_⟩, fun b hb => hb.1, hb6⟩
  have key : ∀ (v : Value) (zs : List Value), wr.ownsRow w.heap.size 36 1 v L.length zs → (∀ b, v.ownBlock = some b → b ≠ w.heap.size) → (∀ (a : Nat) x d, zs[a]? = some x → L[a]? = some d → BytesIn wr (fun b => w.heap.size ≤ b ∧ b < wr.heap.size ∧ ¬ OfOwn w.heap.size vst vla vna b) x d.2) → RowB w6 (fun b => w.heap.size ≤ b ∧ b < w6.heap.size ∧ b ≠ w.heap.size) v (L.map (·.2)) := fun v zs hr hv hz => by
    refine ⟨zs, ?_, fun i x b hx hb => ?_, fun b hb => ⟨(hr.lt b hb).1, by have := (hr.lt b hb).2; omega, hv b hb⟩⟩
    · rw [List.length_map]; exact ownsRow_base_le (hr6.row hr hv) (Nat.zero_le _)
    · rw [List.getElem?_map] at hb
      cases hd : L[i]? with
      | none => rw [hd] at hb; cases hb
      | some d =>
        rw [hd] at hb
        simp only [Option.map_some, Option.some.injEq] at hb
        subst hb
        exact (hz i x d hx hd).kept hr6 (fun b hb e => hb.2.2 (.inl e)) (fun b hb => ⟨hb.1, by have := hb.2.1; omega, fun e => hb.2.2 (.inl e)⟩)
  exact {
    cells := hcell
    stands := by
      have := key vst xs h.st (fun b hb => (h.ap1 b hb).1) h.xst
      unfold DSt.ofFiles
      simpa [List.map_map, Function.comp_def] using this
    lasts := by
      have := key vla ys h.la (fun b hb => (h.ap2 b hb).1) h.yla
      unfold DSt.ofFiles
      simpa [List.map_map, Function.comp_def] using this
    names := by
      refine ⟨?_, fun b hb => ⟨(hn.lt b hb).1, by have := (hn.lt b hb).2; omega, h.ap3 b hb⟩⟩
      show w6.ownsRow 0 _ 2 vna (ofNames L).length _
      rw [hl0]
      exact ownsRow_base_le (hr6.row hn h.ap3) (Nat.zero_le _)
    sure := by
      have hne : ∀ b, v5.ownBlock = some b → ¬ b = w.heap.size := fun b hb e => by have := (h5.lt b hb).1; omega
      refine ⟨?_, fun b hb => ⟨by have := (h5.lt b hb).1; omega, by have := (h5.lt b hb).2; omega, hne b hb⟩⟩
      show w6.ownsRow 0 _ 2 v5 (ofNames L).length _
      rw [hl0]
      exact ownsRow_base_le (hset.row h5 hne) (Nat.zero_le _)
    steps := ⟨World.ownsRow_nil _ _ _ _, fun b hb => by cases hb⟩
    writes := ⟨[], rfl, World.ownsRow_nil _ _ _ _, fun i u x hu => by simp at hu, fun b hb => by cases hb⟩
    rOut := fun h => h.2.2 rfl
    rLt := fun b hb => hb.2.1 }

set_option maxRecDepth 100000 in
set_option maxHeartbeats 16000000 in
theorem rOf_any {cap : Nat} (hc : cap ≤ 1099511627776) {w : World} {a : Option Addr} {c : Nat} {L : List (List UInt8 × List UInt8)} (hA : FilesArg w a L) (hLn : L.length ≤ 8388608) (hsz : ∀ p ∈ L, p.2.length ≤ 140737488355328) (hnm : ∀ p ∈ L, p.1.length ≤ maxLen) :
    Calls Tryz.prog 7 #[.int .i64 (cap : Int), .slice a L.length c] w fun e w' => ((NamesGood L ∧ ∃ po, e = .returned (.tuple #[.pointer (some ⟨po, 0, none⟩), .int .i64 0]) ∧ w.heap.size ≤ po ∧ ∃ R, RAt w' po (DSt.ofFiles cap L) R ∧ ∀ b, R b → w.heap.size ≤ b) ∨
      (¬ NamesGood L ∧ e = .returned (.tuple #[.pointer none, .int .i64 2]))) ∧ Below w.heap.size w w' := by
  have hmax : maxLen = 9223372036854775807 := rfl
  obtain ⟨i0, hi, hz0, hz1, hz2⟩ := info_parts Tryz.info36
  obtain ⟨i1, hi1, hw0, hw1, hw2⟩ := info_parts Tryz.info88
  have hN := rNew_yes cap hc w
  obtain ⟨W0, hW0⟩ : ∃ W0, w.alloc (.cells #[.int .i64 (cap : Int), .slice none 0 0, .slice none 0 0, .slice none 0 0, .slice none 0 0, .slice none 0 0, .slice none 0 0, .int .i64 0] 86) = W0 := ⟨_, rfl⟩
  have hS := OfR.start w cap L
  rw [hW0] at hN hS
  go_enter Tryz.func7, Tryz.ntmps7
  go_wp2_with (go_at_call 23; refine hN.mono ?_; rintro _ w1 ⟨rfl, rfl⟩)
  go_loopw [8] (fun i wr => ∃ k : Nat, k ≤ L.length ∧ i = .int .i64 k ∧ Hid (∃ vst vla vna xs ys, OfR w wr w.heap.size cap L k k k vst vla vna xs ys) ∧ Hid (NamesGood (L.take k))) (fun i _ => L.length - (RowKit.intOf i).toNat)
  case atStart => exact ⟨0, by omega, rfl, ⟨_, _, _, _, _, hS⟩, NamesGood.nil⟩
  case round =>
    obtain ⟨k, hk, rfl, HO, HG⟩ := hrel
    by_cases hlt : k < L.length
    · obtain ⟨x, hx⟩ : ∃ x, L[k]? = some x := ⟨L[k]'hlt, by simp⟩
      obtain ⟨vst, vla, vna, xs, ys, hof⟩ := HO.out
      have hxm := List.mem_of_getElem? hx
      have hx1 := hnm x hxm
      have hx2 := hsz x hxm
      obtain ⟨ab, ao, rfl, hcells⟩ := (hA.below hof.hb) (fun e => by rw [e] at hlt; simp at hlt)
      obtain ⟨ab', ao', ea, hcells0⟩ := hA (fun e => by rw [e] at hlt; simp at hlt)
      simp only [Option.some.injEq, Addr.mk.injEq, and_true] at ea
      obtain ⟨rfl, rfl⟩ := ea
      obtain ⟨n0, va0, vc0, u0, hnil, hrow0⟩ := hcells0 k x hx
      have hab := cell_lt n0
      obtain ⟨n1, ua, uc, u1, _, _⟩ := hcells k x hx
      have eu := ((Chg.of_below (O := fun _ => False) hof.hb).cell u0 (fun h => h)).symm.trans u1
      simp only [Option.some.injEq, Value.slice.injEq, true_and] at eu
      obtain ⟨rfl, rfl⟩ := eu
      have HC := Lib.hid hcells; clear hcells
      unfold sv at n1 n0
      have hname := fun w => (rName_any x.1 w (by omega)).mono (fun e w' h => (⟨h.1, h.2.symm⟩ : e = _ ∧ w' = w))
      have hsbw := hof.hb.size
      have j0 : (0 : Int) ≤ (k : Int) := by omega
      have j1 : (k : Int) < (L.length : Int) := by omega
      obtain ⟨tb, htb⟩ : ∃ tb, ofBad L k = tb := ⟨_, rfl⟩
      have HX := Lib.hid hx
      have HOF := Lib.hid hof
      have HR0 := Lib.hid hrow0
      clear hx hof hrow0 HO
      go_upto_region 7 with fail
      go_cut [47] from 17 to 93 (fun s47 wx => s47 = .bool tb ∧ ∃ m, wr.drewN m = wx)
      case first =>
        unfold ofBad at htb
        rw [HX.out] at htb
        simp only at htb
        cases hno : nameOk x.1 with
        | false =>
          rw [hno] at hname htb
          simp only [Bool.not_false, Bool.true_or] at htb
          subst htb
          clear hno
          go_quiet ((go_at_call 32; exact Calls.quiet_of_same (hname _)))
          go_wp2
          go_meet
          case rel => exact ⟨rfl, _, rfl⟩
        | true =>
          rw [hno] at hname htb
          simp only [Bool.not_true, Bool.false_or] at htb
          clear hno
          cases k with
          | zero =>
            simp only at htb
            subst htb
            simp only [Nat.zero_mul, Nat.add_zero] at n1 u1
            have j2 : decide ((0 : Int) < ((0 : Nat) : Int)) = false := by decide
            go_quiet ((go_at_call 32; exact Calls.quiet_of_same (hname _)))
            go_wp2
            go_meet
            case rel => exact ⟨rfl, _, rfl⟩
          | succ k =>
            obtain ⟨y, hy⟩ : ∃ y, L[k]? = some y := ⟨L[k]'(by omega), by simp⟩
            simp only [hy] at htb
            obtain ⟨m1, va, vc, v1, _, _⟩ := HC.out k y hy
            unfold sv at m1
            have j2 : decide ((0 : Int) < ((k + 1 : Nat) : Int)) = true := decide_eq_true (by omega)
            have j3 : ((k + 1 : Nat) : Int) - 1 = (k : Int) := by omega
            have j4 : (k : Int) < (L.length : Int) := by omega
            have j5 : (0 : Int) ≤ (k : Int) := by omega
            have hls := less_eq y.1 x.1
            cases hbb : bytesBefore y.1 x.1 with
            | false =>
              rw [hbb] at hls htb
              subst htb
              clear hbb hy v1
              go_quiet ((go_at_call 32; exact Calls.quiet_of_same (hname _)))
              go_wp2
              go_meet
              case rel => exact ⟨rfl, _, rfl⟩
            | true =>
              rw [hbb] at hls htb
              subst htb
              clear hbb hy v1
              go_quiet ((go_at_call 32; exact Calls.quiet_of_same (hname _)))
              go_wp2
              go_meet
              case rel => exact ⟨rfl, _, rfl⟩
      case rest =>
      obtain ⟨h47, m, hwx⟩ := hcut
      subst h47
      have HOQ := Lib.hid (HOF.out.drew m)
      rw [hwx] at HOQ
      cases tb with
      | true =>
        have HB := Lib.hid (ofBad_true htb)
        clear htb
        go_wp2
        go_ret2
        exact ⟨.inr ⟨HB.out, rfl⟩, HOQ.out.hb⟩
      | false =>
      have HGD := Lib.hid (ofBad_false HG.out hlt htb)
      clear htb n1 u1 hwx
      have HOQ9 := HOQ
      go_upto_region 9 with fail
      have hoQ := HOQ9.out
      have hobQ := hoQ.cells
      have qQ := cell_of_heap hobQ (i := 1) (v := vst) (by rfl)
      have uQ := (Chg.of_below (O := fun _ => False) hoQ.hb).cell u0 (fun h => h)
      have hszQ := hoQ.hb.size
      have hpoQ := heap_lt hobQ
      have hlQ := fun b hb => (hoQ.st.lt b hb)
      go_cut [47] from 17 to 93 (fun s47 wx => s47 = .bool false ∧ ∃ v5 u, OfR w wx w.heap.size cap L (k + 1) k k v5 vla vna (xs ++ [u]) ys)
      case first =>
        have hcp := fun (W : World) (hW : Below wc.heap.size wc W) => rcopied_own va0 vc0 x.2 W hnil (((HR0.out.below hoQ.hb)).below hW) hx2
        refine wp_region_held_drew (S := fun w' => w'.cell? ⟨ab, ao + k * 2 + 1, none⟩ = some (.slice va0 x.2.length vc0)) (by kernel_rfl) (uQ) (fun hHeld => ?_)
        refine wpAnyH_take (i := 0) (v := ?_) rfl (by kernel_rfl) (by kernel_rfl) (by kernel_rfl) (fun _ _ _ h => h) (Or.inl ⟨by rfl, ?_⟩) hHeld ?_
        rotate_left
        · intro w hSw; (try dsimp only at hSw); go_simp
          all_goals (with_reducible rfl)
        (try simp only [Act.put, List.setIfInBounds_toArray, List.set_cons_zero, List.set_cons_succ])
        refine wpAnyH_take (i := 1) (v := ?_) rfl (by kernel_rfl) (by kernel_rfl) (by kernel_rfl) (fun _ _ _ h => h) (Or.inl ⟨by rfl, ?_⟩) hHeld ?_
        rotate_left
        · intro w hSw; (try dsimp only at hSw); go_simp
          all_goals (with_reducible rfl)
        (try simp only [Act.put, List.setIfInBounds_toArray, List.set_cons_zero, List.set_cons_succ])
        refine wpAnyH_take (i := 2) (v := ?_) rfl (by kernel_rfl) (by kernel_rfl) (by kernel_rfl) (fun _ _ _ h => h) (Or.inl ⟨by rfl, ?_⟩) hHeld ?_
        rotate_left
        · intro w hSw; (try dsimp only at hSw); go_simp
          all_goals (with_reducible rfl)
        (try simp only [Act.put, List.setIfInBounds_toArray, List.set_cons_zero, List.set_cons_succ])
        refine wpAnyH_take (i := 3) (v := ?_) rfl (by kernel_rfl) (by kernel_rfl) (by kernel_rfl) (fun _ _ _ h => h) (Or.inl ⟨by rfl, ?_⟩) hHeld ?_
        rotate_left
        · intro w hSw; (try dsimp only at hSw); go_simp
          all_goals (with_reducible rfl)
        (try simp only [Act.put, List.setIfInBounds_toArray, List.set_cons_zero, List.set_cons_succ])
        refine wpAnyH_take (i := 5) (v := ?_) rfl (by kernel_rfl) (by kernel_rfl) (by kernel_rfl) (fun _ _ _ h => h) (Or.inl ⟨by rfl, ?_⟩) hHeld ?_
        rotate_left
        · intro w hSw; (try dsimp only at hSw); go_simp
          all_goals (with_reducible rfl)
        (try simp only [Act.put, List.setIfInBounds_toArray, List.set_cons_zero, List.set_cons_succ])
        refine wpAnyH_take (i := 6) (v := ?_) rfl (by kernel_rfl) (by kernel_rfl) (by kernel_rfl) (fun _ _ _ h => h) (Or.inl ⟨by rfl, ?_⟩) hHeld ?_
        rotate_left
        · intro w hSw; (try dsimp only at hSw); go_simp
          all_goals (with_reducible rfl)
        (try simp only [Act.put, List.setIfInBounds_toArray, List.set_cons_zero, List.set_cons_succ])
        refine wpAnyH_take (i := 7) (v := ?_) rfl (by kernel_rfl) (by kernel_rfl) (by kernel_rfl) (fun _ _ _ h => h) (Or.inl ⟨by rfl, ?_⟩) hHeld ?_
        rotate_left
        · intro w hSw; (try dsimp only at hSw); go_simp
          all_goals (with_reducible rfl)
        (try simp only [Act.put, List.setIfInBounds_toArray, List.set_cons_zero, List.set_cons_succ])
        refine wpAnyH_take (i := 8) (v := ?_) rfl (by kernel_rfl) (by kernel_rfl) (by kernel_rfl) (fun _ _ _ h => h) (Or.inl ⟨by rfl, ?_⟩) hHeld ?_
        rotate_left
        · intro w hSw; (try dsimp only at hSw); go_simp
          all_goals (with_reducible rfl)
        (try simp only [Act.put, List.setIfInBounds_toArray, List.set_cons_zero, List.set_cons_succ])
        refine wpAnyH_take (i := 9) (v := ?_) rfl (by kernel_rfl) (by kernel_rfl) (by kernel_rfl) (fun _ _ _ h => h) (Or.inl ⟨by rfl, ?_⟩) hHeld ?_
        rotate_left
        · intro w hSw; (try dsimp only at hSw); go_simp
          all_goals (with_reducible rfl)
        (try simp only [Act.put, List.setIfInBounds_toArray, List.set_cons_zero, List.set_cons_succ])
        refine wpAnyH_ready (rs := [4, 10]) (by kernel_rfl) (by simp) ?_
        refine AllReadyH.cons rfl (fun K hK => ?_) (AllReadyH.cons rfl (fun K hK => ?_) AllReadyH.nil)
        · skip
          go_simp
          refine hK.out _ _ (uQ) (fun hHeld => ?_)
          clear hK K
          (try simp only [Act.put, List.setIfInBounds_toArray, List.set_cons_zero, List.set_cons_succ])
          refine wpAnyH_ready (rs := [10]) (by kernel_rfl) (by simp) ?_
          refine AllReadyH.cons rfl (fun K hK => ?_) AllReadyH.nil
          go_simp
          go_wp2_with (first | (go_at_call 33; refine (hcp _ (Below.refl _ _).drew).mono ?_; rintro _ w2 ⟨u2, rfl, hu2, hb2⟩; replace hb2 : Below wc.heap.size wc w2 := ⟨hb2.os, hb2.tape, hb2.output, hb2.size, hb2.block⟩; replace hu2 : w2.ownsRow wc.heap.size 5 1 u2 x.2.length (x.2.map bv) := hu2; obtain ⟨va2, vc2, rfl, _, _⟩ := RowAt.of_owns hu2))
          have hcb := Chg.of_below (O := fun _ => False) hb2
          have uQ2 := hcb.cell uQ (fun h => h)
          have qQ2 := hcb.cell qQ (fun h => h)
          have hobQ2 := hcb.obj hobQ (fun h => h)
          have hz2' := hb2.size
          refine hK.out _ _ (uQ2) (fun hHeld => ?_)
          clear hK K
          (try simp only [Act.put, List.setIfInBounds_toArray, List.set_cons_zero, List.set_cons_succ])
          refine wpAnyH_ready (rs := [11]) (by kernel_rfl) (by simp) ?_
          refine AllReadyH.cons rfl (fun K hK => ?_) AllReadyH.nil
          go_simp
          have hc2a : Chg (fun _ => False) w2 (w2.alloc (.cells #[.slice va2 x.2.length vc2] 36)) := Chg.alloc _ _ _
          have uQ3 := hc2a.cell uQ2 (fun h => h)
          have qQ3 := hc2a.cell qQ2 (fun h => h)
          have hobQ3 := hc2a.obj hobQ2 (fun h => h)
          refine hK.out _ _ (uQ3) (fun hHeld => ?_)
          clear hK K
          (try simp only [Act.put, List.setIfInBounds_toArray, List.set_cons_zero, List.set_cons_succ])
          refine wpAnyH_ready (rs := [12]) (by kernel_rfl) (by simp) ?_
          refine AllReadyH.cons rfl (fun K hK => ?_) AllReadyH.nil
          rw [if_pos (by rfl)]
          refine wp_append_own_at (.tmp 52) (.tmp 59) 81 rfl w.heap.size 36 i0 _ 1 24 Tryz.underlying81 hi hz0 hz1 hz2 rfl (by decide) vst k _ rfl (hc2a.row (hcb.row hoQ.st (fun _ _ h => h)) (fun _ _ h => h)) ⟨w2.heap.size, 0, none⟩ 1 1 [.slice va2 x.2.length vc2] rfl rfl (fun j u hu => by rw [addr_add]; exact cell_new w2 _ _ j u (by simpa using hu)) (by simp [Value.oneCell']) (by omega) (by omega) (by rw [World.size_alloc]; omega) ?_
          intro v5 w5 hv5 hg5 hat5
          rw [World.size_alloc] at hat5
          obtain ⟨a5, c5, rfl, _⟩ := ownsRow_cell hv5
          have hc5 : Chg (fun b => vst.ownBlock = some b) (w2.alloc (.cells #[.slice va2 x.2.length vc2] 36)) w5 := Chg.of_grown hg5 (fun k e _ => e)
          have hVpo : ¬ vst.ownBlock = some w.heap.size := fun e => (hoQ.ap1 _ e).1 rfl
          have uQ5 := hc5.cell uQ3 (fun e => by have h1 : w.heap.size ≤ ab := (hlQ _ e).1; have h2 : ab < w.heap.size := hab; omega)
          have hobQ5 := hc5.obj hobQ3 hVpo
          have qQ5 := cell_of_heap hobQ5 (i := 1) (v := vst) (by rfl)
          have zQ5 := frozen_of_heap (i := 1) hobQ5
          refine hK.out _ _ (uQ5) (fun hHeld => ?_)
          clear hK K
          (try simp only [Act.put, List.setIfInBounds_toArray, List.set_cons_zero, List.set_cons_succ])
          refine wpAnyH_take (i := 13) (v := ?_) rfl (by kernel_rfl) (by kernel_rfl) (by kernel_rfl) (fun _ _ _ h => h) (Or.inl ⟨by rfl, ?_⟩) hHeld ?_
          rotate_left
          · intro w hSw; (try dsimp only at hSw); go_simp
            all_goals (with_reducible rfl)
          (try simp only [Act.put, List.setIfInBounds_toArray, List.set_cons_zero, List.set_cons_succ])
          refine wpAnyH_take (i := 14) (v := ?_) rfl (by kernel_rfl) (by kernel_rfl) (by kernel_rfl) (fun _ _ _ h => h) (Or.inl ⟨by rfl, ?_⟩) hHeld ?_
          rotate_left
          · intro w hSw; (try dsimp only at hSw); go_simp
            all_goals (with_reducible rfl)
          (try simp only [Act.put, List.setIfInBounds_toArray, List.set_cons_zero, List.set_cons_succ])
          refine wpAnyH_ready (rs := [15]) (by kernel_rfl) (by simp) ?_
          refine AllReadyH.cons rfl (fun K hK => ?_) AllReadyH.nil
          go_simp
          refine hK.out _ _ ((Chg.set (O := (· = w.heap.size)) _ rfl).cell uQ5 (by show ¬ ab = w.heap.size; have h2 : ab < w.heap.size := hab; omega)) (fun hHeld => ?_)
          clear hK K
          (try simp only [Act.put, List.setIfInBounds_toArray, List.set_cons_zero, List.set_cons_succ])
          refine wpAnyH_done (by kernel_rfl) ?_ _
          go_wp2_with fail
          go_meet
          case rel =>
            have hc25 : Chg (fun b => vst.ownBlock = some b) w2 w5 := (hc2a.mono (fun _ h _ => h.elim)).trans hc5 (fun _ h _ => h)
            have hz5 := hc5.size
            rw [World.size_alloc] at hz5
            exact ⟨rfl, _, _, OfR.stand hoQ hb2 (BytesIn.of_owns hu2 (fun b h1 h2 => ⟨h1, h2⟩)) HX.out hc25 hv5 hat5 (by omega) (fun e => (hv5.lt _ e).2)⟩
        · skip
          go_simp
          go_wp2_with (first | (go_at_call 33; refine (hcp _ (Below.refl _ _).drew).mono ?_; rintro _ w2 ⟨u2, rfl, hu2, hb2⟩; replace hb2 : Below wc.heap.size wc w2 := ⟨hb2.os, hb2.tape, hb2.output, hb2.size, hb2.block⟩; replace hu2 : w2.ownsRow wc.heap.size 5 1 u2 x.2.length (x.2.map bv) := hu2; obtain ⟨va2, vc2, rfl, _, _⟩ := RowAt.of_owns hu2))
          have hcb := Chg.of_below (O := fun _ => False) hb2
          have uQ2 := hcb.cell uQ (fun h => h)
          have qQ2 := hcb.cell qQ (fun h => h)
          have hobQ2 := hcb.obj hobQ (fun h => h)
          have hz2' := hb2.size
          refine hK.out _ _ (uQ2) (fun hHeld => ?_)
          clear hK K
          (try simp only [Act.put, List.setIfInBounds_toArray, List.set_cons_zero, List.set_cons_succ])
          refine wpAnyH_ready (rs := [4, 11]) (by kernel_rfl) (by simp) ?_
          refine AllReadyH.cons rfl (fun K hK => ?_) (AllReadyH.cons rfl (fun K hK => ?_) AllReadyH.nil)
          · skip
            go_simp
            refine hK.out _ _ (uQ2) (fun hHeld => ?_)
            clear hK K
            (try simp only [Act.put, List.setIfInBounds_toArray, List.set_cons_zero, List.set_cons_succ])
            refine wpAnyH_ready (rs := [11]) (by kernel_rfl) (by simp) ?_
            refine AllReadyH.cons rfl (fun K hK => ?_) AllReadyH.nil
            go_simp
            have hc2a : Chg (fun _ => False) w2 (w2.alloc (.cells #[.slice va2 x.2.length vc2] 36)) := Chg.alloc _ _ _
            have uQ3 := hc2a.cell uQ2 (fun h => h)
            have qQ3 := hc2a.cell qQ2 (fun h => h)
            have hobQ3 := hc2a.obj hobQ2 (fun h => h)
            refine hK.out _ _ (uQ3) (fun hHeld => ?_)
            clear hK K
            (try simp only [Act.put, List.setIfInBounds_toArray, List.set_cons_zero, List.set_cons_succ])
            refine wpAnyH_ready (rs := [12]) (by kernel_rfl) (by simp) ?_
            refine AllReadyH.cons rfl (fun K hK => ?_) AllReadyH.nil
            rw [if_pos (by rfl)]
            refine wp_append_own_at (.tmp 52) (.tmp 59) 81 rfl w.heap.size 36 i0 _ 1 24 Tryz.underlying81 hi hz0 hz1 hz2 rfl (by decide) vst k _ rfl (hc2a.row (hcb.row hoQ.st (fun _ _ h => h)) (fun _ _ h => h)) ⟨w2.heap.size, 0, none⟩ 1 1 [.slice va2 x.2.length vc2] rfl rfl (fun j u hu => by rw [addr_add]; exact cell_new w2 _ _ j u (by simpa using hu)) (by simp [Value.oneCell']) (by omega) (by omega) (by rw [World.size_alloc]; omega) ?_
            intro v5 w5 hv5 hg5 hat5
            rw [World.size_alloc] at hat5
            obtain ⟨a5, c5, rfl, _⟩ := ownsRow_cell hv5
            have hc5 : Chg (fun b => vst.ownBlock = some b) (w2.alloc (.cells #[.slice va2 x.2.length vc2] 36)) w5 := Chg.of_grown hg5 (fun k e _ => e)
            have hVpo : ¬ vst.ownBlock = some w.heap.size := fun e => (hoQ.ap1 _ e).1 rfl
            have uQ5 := hc5.cell uQ3 (fun e => by have h1 : w.heap.size ≤ ab := (hlQ _ e).1; have h2 : ab < w.heap.size := hab; omega)
            have hobQ5 := hc5.obj hobQ3 hVpo
            have qQ5 := cell_of_heap hobQ5 (i := 1) (v := vst) (by rfl)
            have zQ5 := frozen_of_heap (i := 1) hobQ5
            refine hK.out _ _ (uQ5) (fun hHeld => ?_)
            clear hK K
            (try simp only [Act.put, List.setIfInBounds_toArray, List.set_cons_zero, List.set_cons_succ])
            refine wpAnyH_take (i := 13) (v := ?_) rfl (by kernel_rfl) (by kernel_rfl) (by kernel_rfl) (fun _ _ _ h => h) (Or.inl ⟨by rfl, ?_⟩) hHeld ?_
            rotate_left
            · intro w hSw; (try dsimp only at hSw); go_simp
              all_goals (with_reducible rfl)
            (try simp only [Act.put, List.setIfInBounds_toArray, List.set_cons_zero, List.set_cons_succ])
            refine wpAnyH_take (i := 14) (v := ?_) rfl (by kernel_rfl) (by kernel_rfl) (by kernel_rfl) (fun _ _ _ h => h) (Or.inl ⟨by rfl, ?_⟩) hHeld ?_
            rotate_left
            · intro w hSw; (try dsimp only at hSw); go_simp
              all_goals (with_reducible rfl)
            (try simp only [Act.put, List.setIfInBounds_toArray, List.set_cons_zero, List.set_cons_succ])
            refine wpAnyH_ready (rs := [15]) (by kernel_rfl) (by simp) ?_
            refine AllReadyH.cons rfl (fun K hK => ?_) AllReadyH.nil
            go_simp
            refine hK.out _ _ ((Chg.set (O := (· = w.heap.size)) _ rfl).cell uQ5 (by show ¬ ab = w.heap.size; have h2 : ab < w.heap.size := hab; omega)) (fun hHeld => ?_)
            clear hK K
            (try simp only [Act.put, List.setIfInBounds_toArray, List.set_cons_zero, List.set_cons_succ])
            refine wpAnyH_done (by kernel_rfl) ?_ _
            go_wp2_with fail
            go_meet
            case rel =>
              have hc25 : Chg (fun b => vst.ownBlock = some b) w2 w5 := (hc2a.mono (fun _ h _ => h.elim)).trans hc5 (fun _ h _ => h)
              have hz5 := hc5.size
              rw [World.size_alloc] at hz5
              exact ⟨rfl, _, _, OfR.stand hoQ hb2 (BytesIn.of_owns hu2 (fun b h1 h2 => ⟨h1, h2⟩)) HX.out hc25 hv5 hat5 (by omega) (fun e => (hv5.lt _ e).2)⟩
          · skip
            go_simp
            have hc2a : Chg (fun _ => False) w2 (w2.alloc (.cells #[.slice va2 x.2.length vc2] 36)) := Chg.alloc _ _ _
            have uQ3 := hc2a.cell uQ2 (fun h => h)
            have qQ3 := hc2a.cell qQ2 (fun h => h)
            have hobQ3 := hc2a.obj hobQ2 (fun h => h)
            refine hK.out _ _ (uQ3) (fun hHeld => ?_)
            clear hK K
            (try simp only [Act.put, List.setIfInBounds_toArray, List.set_cons_zero, List.set_cons_succ])
            refine wpAnyH_ready (rs := [4]) (by kernel_rfl) (by simp) ?_
            refine AllReadyH.cons rfl (fun K hK => ?_) AllReadyH.nil
            go_simp
            refine hK.out _ _ (uQ3) (fun hHeld => ?_)
            clear hK K
            (try simp only [Act.put, List.setIfInBounds_toArray, List.set_cons_zero, List.set_cons_succ])
            refine wpAnyH_ready (rs := [12]) (by kernel_rfl) (by simp) ?_
            refine AllReadyH.cons rfl (fun K hK => ?_) AllReadyH.nil
            rw [if_pos (by rfl)]
            refine wp_append_own_at (.tmp 52) (.tmp 59) 81 rfl w.heap.size 36 i0 _ 1 24 Tryz.underlying81 hi hz0 hz1 hz2 rfl (by decide) vst k _ rfl (hc2a.row (hcb.row hoQ.st (fun _ _ h => h)) (fun _ _ h => h)) ⟨w2.heap.size, 0, none⟩ 1 1 [.slice va2 x.2.length vc2] rfl rfl (fun j u hu => by rw [addr_add]; exact cell_new w2 _ _ j u (by simpa using hu)) (by simp [Value.oneCell']) (by omega) (by omega) (by rw [World.size_alloc]; omega) ?_
            intro v5 w5 hv5 hg5 hat5
            rw [World.size_alloc] at hat5
            obtain ⟨a5, c5, rfl, _⟩ := ownsRow_cell hv5
            have hc5 : Chg (fun b => vst.ownBlock = some b) (w2.alloc (.cells #[.slice va2 x.2.length vc2] 36)) w5 := Chg.of_grown hg5 (fun k e _ => e)
            have hVpo : ¬ vst.ownBlock = some w.heap.size := fun e => (hoQ.ap1 _ e).1 rfl
            have uQ5 := hc5.cell uQ3 (fun e => by have h1 : w.heap.size ≤ ab := (hlQ _ e).1; have h2 : ab < w.heap.size := hab; omega)
            have hobQ5 := hc5.obj hobQ3 hVpo
            have qQ5 := cell_of_heap hobQ5 (i := 1) (v := vst) (by rfl)
            have zQ5 := frozen_of_heap (i := 1) hobQ5
            refine hK.out _ _ (uQ5) (fun hHeld => ?_)
            clear hK K
            (try simp only [Act.put, List.setIfInBounds_toArray, List.set_cons_zero, List.set_cons_succ])
            refine wpAnyH_take (i := 13) (v := ?_) rfl (by kernel_rfl) (by kernel_rfl) (by kernel_rfl) (fun _ _ _ h => h) (Or.inl ⟨by rfl, ?_⟩) hHeld ?_
            rotate_left
            · intro w hSw; (try dsimp only at hSw); go_simp
              all_goals (with_reducible rfl)
            (try simp only [Act.put, List.setIfInBounds_toArray, List.set_cons_zero, List.set_cons_succ])
            refine wpAnyH_take (i := 14) (v := ?_) rfl (by kernel_rfl) (by kernel_rfl) (by kernel_rfl) (fun _ _ _ h => h) (Or.inl ⟨by rfl, ?_⟩) hHeld ?_
            rotate_left
            · intro w hSw; (try dsimp only at hSw); go_simp
              all_goals (with_reducible rfl)
            (try simp only [Act.put, List.setIfInBounds_toArray, List.set_cons_zero, List.set_cons_succ])
            refine wpAnyH_ready (rs := [15]) (by kernel_rfl) (by simp) ?_
            refine AllReadyH.cons rfl (fun K hK => ?_) AllReadyH.nil
            go_simp
            refine hK.out _ _ ((Chg.set (O := (· = w.heap.size)) _ rfl).cell uQ5 (by show ¬ ab = w.heap.size; have h2 : ab < w.heap.size := hab; omega)) (fun hHeld => ?_)
            clear hK K
            (try simp only [Act.put, List.setIfInBounds_toArray, List.set_cons_zero, List.set_cons_succ])
            refine wpAnyH_done (by kernel_rfl) ?_ _
            go_wp2_with fail
            go_meet
            case rel =>
              have hc25 : Chg (fun b => vst.ownBlock = some b) w2 w5 := (hc2a.mono (fun _ h _ => h.elim)).trans hc5 (fun _ h _ => h)
              have hz5 := hc5.size
              rw [World.size_alloc] at hz5
              exact ⟨rfl, _, _, OfR.stand hoQ hb2 (BytesIn.of_owns hu2 (fun b h1 h2 => ⟨h1, h2⟩)) HX.out hc25 hv5 hat5 (by omega) (fun e => (hv5.lt _ e).2)⟩
      case rest =>
      obtain ⟨h47, vst9, u9, hO9⟩ := hcut
      subst h47
      have HOQ10 := Lib.hid hO9
      clear hO9 HOQ HOQ9 HOF
      go_upto_region 10 with fail
      have hoQ := HOQ10.out
      have hobQ := hoQ.cells
      have qQ := cell_of_heap hobQ (i := 2) (v := vla) (by rfl)
      have uQ := (Chg.of_below (O := fun _ => False) hoQ.hb).cell u0 (fun h => h)
      have hszQ := hoQ.hb.size
      have hpoQ := heap_lt hobQ
      have hlQ := fun b hb => (hoQ.la.lt b hb)
      go_cut [47] from 17 to 93 (fun s47 wx => s47 = .bool false ∧ ∃ v5 u, OfR w wx w.heap.size cap L (k + 1) (k + 1) k vst9 v5 vna (xs ++ [u9]) (ys ++ [u]))
      case first =>
        have hcp := fun (W : World) (hW : Below wc.heap.size wc W) => rcopied_own va0 vc0 x.2 W hnil (((HR0.out.below hoQ.hb)).below hW) hx2
        refine wp_region_held_drew (S := fun w' => w'.cell? ⟨ab, ao + k * 2 + 1, none⟩ = some (.slice va0 x.2.length vc0)) (by kernel_rfl) (uQ) (fun hHeld => ?_)
        refine wpAnyH_take (i := 0) (v := ?_) rfl (by kernel_rfl) (by kernel_rfl) (by kernel_rfl) (fun _ _ _ h => h) (Or.inl ⟨by rfl, ?_⟩) hHeld ?_
        rotate_left
        · intro w hSw; (try dsimp only at hSw); go_simp
          all_goals (with_reducible rfl)
        (try simp only [Act.put, List.setIfInBounds_toArray, List.set_cons_zero, List.set_cons_succ])
        refine wpAnyH_take (i := 1) (v := ?_) rfl (by kernel_rfl) (by kernel_rfl) (by kernel_rfl) (fun _ _ _ h => h) (Or.inl ⟨by rfl, ?_⟩) hHeld ?_
        rotate_left
        · intro w hSw; (try dsimp only at hSw); go_simp
          all_goals (with_reducible rfl)
        (try simp only [Act.put, List.setIfInBounds_toArray, List.set_cons_zero, List.set_cons_succ])
        refine wpAnyH_take (i := 2) (v := ?_) rfl (by kernel_rfl) (by kernel_rfl) (by kernel_rfl) (fun _ _ _ h => h) (Or.inl ⟨by rfl, ?_⟩) hHeld ?_
        rotate_left
        · intro w hSw; (try dsimp only at hSw); go_simp
          all_goals (with_reducible rfl)
        (try simp only [Act.put, List.setIfInBounds_toArray, List.set_cons_zero, List.set_cons_succ])
        refine wpAnyH_take (i := 3) (v := ?_) rfl (by kernel_rfl) (by kernel_rfl) (by kernel_rfl) (fun _ _ _ h => h) (Or.inl ⟨by rfl, ?_⟩) hHeld ?_
        rotate_left
        · intro w hSw; (try dsimp only at hSw); go_simp
          all_goals (with_reducible rfl)
        (try simp only [Act.put, List.setIfInBounds_toArray, List.set_cons_zero, List.set_cons_succ])
        refine wpAnyH_take (i := 5) (v := ?_) rfl (by kernel_rfl) (by kernel_rfl) (by kernel_rfl) (fun _ _ _ h => h) (Or.inl ⟨by rfl, ?_⟩) hHeld ?_
        rotate_left
        · intro w hSw; (try dsimp only at hSw); go_simp
          all_goals (with_reducible rfl)
        (try simp only [Act.put, List.setIfInBounds_toArray, List.set_cons_zero, List.set_cons_succ])
        refine wpAnyH_take (i := 6) (v := ?_) rfl (by kernel_rfl) (by kernel_rfl) (by kernel_rfl) (fun _ _ _ h => h) (Or.inl ⟨by rfl, ?_⟩) hHeld ?_
        rotate_left
        · intro w hSw; (try dsimp only at hSw); go_simp
          all_goals (with_reducible rfl)
        (try simp only [Act.put, List.setIfInBounds_toArray, List.set_cons_zero, List.set_cons_succ])
        refine wpAnyH_take (i := 7) (v := ?_) rfl (by kernel_rfl) (by kernel_rfl) (by kernel_rfl) (fun _ _ _ h => h) (Or.inl ⟨by rfl, ?_⟩) hHeld ?_
        rotate_left
        · intro w hSw; (try dsimp only at hSw); go_simp
          all_goals (with_reducible rfl)
        (try simp only [Act.put, List.setIfInBounds_toArray, List.set_cons_zero, List.set_cons_succ])
        refine wpAnyH_take (i := 8) (v := ?_) rfl (by kernel_rfl) (by kernel_rfl) (by kernel_rfl) (fun _ _ _ h => h) (Or.inl ⟨by rfl, ?_⟩) hHeld ?_
        rotate_left
        · intro w hSw; (try dsimp only at hSw); go_simp
          all_goals (with_reducible rfl)
        (try simp only [Act.put, List.setIfInBounds_toArray, List.set_cons_zero, List.set_cons_succ])
        refine wpAnyH_take (i := 9) (v := ?_) rfl (by kernel_rfl) (by kernel_rfl) (by kernel_rfl) (fun _ _ _ h => h) (Or.inl ⟨by rfl, ?_⟩) hHeld ?_
        rotate_left
        · intro w hSw; (try dsimp only at hSw); go_simp
          all_goals (with_reducible rfl)
        (try simp only [Act.put, List.setIfInBounds_toArray, List.set_cons_zero, List.set_cons_succ])
        refine wpAnyH_ready (rs := [4, 10]) (by kernel_rfl) (by simp) ?_
        refine AllReadyH.cons rfl (fun K hK => ?_) (AllReadyH.cons rfl (fun K hK => ?_) AllReadyH.nil)
        · skip
          go_simp
          refine hK.out _ _ (uQ) (fun hHeld => ?_)
          clear hK K
          (try simp only [Act.put, List.setIfInBounds_toArray, List.set_cons_zero, List.set_cons_succ])
          refine wpAnyH_ready (rs := [10]) (by kernel_rfl) (by simp) ?_
          refine AllReadyH.cons rfl (fun K hK => ?_) AllReadyH.nil
          go_simp
          go_wp2_with (first | (go_at_call 33; refine (hcp _ (Below.refl _ _).drew).mono ?_; rintro _ w2 ⟨u2, rfl, hu2, hb2⟩; replace hb2 : Below wc.heap.size wc w2 := ⟨hb2.os, hb2.tape, hb2.output, hb2.size, hb2.block⟩; replace hu2 : w2.ownsRow wc.heap.size 5 1 u2 x.2.length (x.2.map bv) := hu2; obtain ⟨va2, vc2, rfl, _, _⟩ := RowAt.of_owns hu2))
          have hcb := Chg.of_below (O := fun _ => False) hb2
          have uQ2 := hcb.cell uQ (fun h => h)
          have qQ2 := hcb.cell qQ (fun h => h)
          have hobQ2 := hcb.obj hobQ (fun h => h)
          have hz2' := hb2.size
          refine hK.out _ _ (uQ2) (fun hHeld => ?_)
          clear hK K
          (try simp only [Act.put, List.setIfInBounds_toArray, List.set_cons_zero, List.set_cons_succ])
          refine wpAnyH_ready (rs := [11]) (by kernel_rfl) (by simp) ?_
          refine AllReadyH.cons rfl (fun K hK => ?_) AllReadyH.nil
          go_simp
          have hc2a : Chg (fun _ => False) w2 (w2.alloc (.cells #[.slice va2 x.2.length vc2] 36)) := Chg.alloc _ _ _
          have uQ3 := hc2a.cell uQ2 (fun h => h)
          have qQ3 := hc2a.cell qQ2 (fun h => h)
          have hobQ3 := hc2a.obj hobQ2 (fun h => h)
          refine hK.out _ _ (uQ3) (fun hHeld => ?_)
          clear hK K
          (try simp only [Act.put, List.setIfInBounds_toArray, List.set_cons_zero, List.set_cons_succ])
          refine wpAnyH_ready (rs := [12]) (by kernel_rfl) (by simp) ?_
          refine AllReadyH.cons rfl (fun K hK => ?_) AllReadyH.nil
          rw [if_pos (by rfl)]
          refine wp_append_own_at (.tmp 67) (.tmp 74) 81 rfl w.heap.size 36 i0 _ 1 24 Tryz.underlying81 hi hz0 hz1 hz2 rfl (by decide) vla k _ rfl (hc2a.row (hcb.row hoQ.la (fun _ _ h => h)) (fun _ _ h => h)) ⟨w2.heap.size, 0, none⟩ 1 1 [.slice va2 x.2.length vc2] rfl rfl (fun j u hu => by rw [addr_add]; exact cell_new w2 _ _ j u (by simpa using hu)) (by simp [Value.oneCell']) (by omega) (by omega) (by rw [World.size_alloc]; omega) ?_
          intro v5 w5 hv5 hg5 hat5
          rw [World.size_alloc] at hat5
          obtain ⟨a5, c5, rfl, _⟩ := ownsRow_cell hv5
          have hc5 : Chg (fun b => vla.ownBlock = some b) (w2.alloc (.cells #[.slice va2 x.2.length vc2] 36)) w5 := Chg.of_grown hg5 (fun k e _ => e)
          have hVpo : ¬ vla.ownBlock = some w.heap.size := fun e => (hoQ.ap2 _ e).1 rfl
          have uQ5 := hc5.cell uQ3 (fun e => by have h1 : w.heap.size ≤ ab := (hlQ _ e).1; have h2 : ab < w.heap.size := hab; omega)
          have hobQ5 := hc5.obj hobQ3 hVpo
          have qQ5 := cell_of_heap hobQ5 (i := 2) (v := vla) (by rfl)
          have zQ5 := frozen_of_heap (i := 2) hobQ5
          refine hK.out _ _ (uQ5) (fun hHeld => ?_)
          clear hK K
          (try simp only [Act.put, List.setIfInBounds_toArray, List.set_cons_zero, List.set_cons_succ])
          refine wpAnyH_take (i := 13) (v := ?_) rfl (by kernel_rfl) (by kernel_rfl) (by kernel_rfl) (fun _ _ _ h => h) (Or.inl ⟨by rfl, ?_⟩) hHeld ?_
          rotate_left
          · intro w hSw; (try dsimp only at hSw); go_simp
            all_goals (with_reducible rfl)
          (try simp only [Act.put, List.setIfInBounds_toArray, List.set_cons_zero, List.set_cons_succ])
          refine wpAnyH_take (i := 14) (v := ?_) rfl (by kernel_rfl) (by kernel_rfl) (by kernel_rfl) (fun _ _ _ h => h) (Or.inl ⟨by rfl, ?_⟩) hHeld ?_
          rotate_left
          · intro w hSw; (try dsimp only at hSw); go_simp
            all_goals (with_reducible rfl)
          (try simp only [Act.put, List.setIfInBounds_toArray, List.set_cons_zero, List.set_cons_succ])
          refine wpAnyH_ready (rs := [15]) (by kernel_rfl) (by simp) ?_
          refine AllReadyH.cons rfl (fun K hK => ?_) AllReadyH.nil
          go_simp
          refine hK.out _ _ ((Chg.set (O := (· = w.heap.size)) _ rfl).cell uQ5 (by show ¬ ab = w.heap.size; have h2 : ab < w.heap.size := hab; omega)) (fun hHeld => ?_)
          clear hK K
          (try simp only [Act.put, List.setIfInBounds_toArray, List.set_cons_zero, List.set_cons_succ])
          refine wpAnyH_done (by kernel_rfl) ?_ _
          go_wp2_with fail
          go_meet
          case rel =>
            have hc25 : Chg (fun b => vla.ownBlock = some b) w2 w5 := (hc2a.mono (fun _ h _ => h.elim)).trans hc5 (fun _ h _ => h)
            have hz5 := hc5.size
            rw [World.size_alloc] at hz5
            exact ⟨rfl, _, _, OfR.last hoQ hb2 (BytesIn.of_owns hu2 (fun b h1 h2 => ⟨h1, h2⟩)) HX.out hc25 hv5 hat5 (by omega) (fun e => (hv5.lt _ e).2)⟩
        · skip
          go_simp
          go_wp2_with (first | (go_at_call 33; refine (hcp _ (Below.refl _ _).drew).mono ?_; rintro _ w2 ⟨u2, rfl, hu2, hb2⟩; replace hb2 : Below wc.heap.size wc w2 := ⟨hb2.os, hb2.tape, hb2.output, hb2.size, hb2.block⟩; replace hu2 : w2.ownsRow wc.heap.size 5 1 u2 x.2.length (x.2.map bv) := hu2; obtain ⟨va2, vc2, rfl, _, _⟩ := RowAt.of_owns hu2))
          have hcb := Chg.of_below (O := fun _ => False) hb2
          have uQ2 := hcb.cell uQ (fun h => h)
          have qQ2 := hcb.cell qQ (fun h => h)
          have hobQ2 := hcb.obj hobQ (fun h => h)
          have hz2' := hb2.size
          refine hK.out _ _ (uQ2) (fun hHeld => ?_)
          clear hK K
          (try simp only [Act.put, List.setIfInBounds_toArray, List.set_cons_zero, List.set_cons_succ])
          refine wpAnyH_ready (rs := [4, 11]) (by kernel_rfl) (by simp) ?_
          refine AllReadyH.cons rfl (fun K hK => ?_) (AllReadyH.cons rfl (fun K hK => ?_) AllReadyH.nil)
          · skip
            go_simp
            refine hK.out _ _ (uQ2) (fun hHeld => ?_)
            clear hK K
            (try simp only [Act.put, List.setIfInBounds_toArray, List.set_cons_zero, List.set_cons_succ])
            refine wpAnyH_ready (rs := [11]) (by kernel_rfl) (by simp) ?_
            refine AllReadyH.cons rfl (fun K hK => ?_) AllReadyH.nil
            go_simp
            have hc2a : Chg (fun _ => False) w2 (w2.alloc (.cells #[.slice va2 x.2.length vc2] 36)) := Chg.alloc _ _ _
            have uQ3 := hc2a.cell uQ2 (fun h => h)
            have qQ3 := hc2a.cell qQ2 (fun h => h)
            have hobQ3 := hc2a.obj hobQ2 (fun h => h)
            refine hK.out _ _ (uQ3) (fun hHeld => ?_)
            clear hK K
            (try simp only [Act.put, List.setIfInBounds_toArray, List.set_cons_zero, List.set_cons_succ])
            refine wpAnyH_ready (rs := [12]) (by kernel_rfl) (by simp) ?_
            refine AllReadyH.cons rfl (fun K hK => ?_) AllReadyH.nil
            rw [if_pos (by rfl)]
            refine wp_append_own_at (.tmp 67) (.tmp 74) 81 rfl w.heap.size 36 i0 _ 1 24 Tryz.underlying81 hi hz0 hz1 hz2 rfl (by decide) vla k _ rfl (hc2a.row (hcb.row hoQ.la (fun _ _ h => h)) (fun _ _ h => h)) ⟨w2.heap.size, 0, none⟩ 1 1 [.slice va2 x.2.length vc2] rfl rfl (fun j u hu => by rw [addr_add]; exact cell_new w2 _ _ j u (by simpa using hu)) (by simp [Value.oneCell']) (by omega) (by omega) (by rw [World.size_alloc]; omega) ?_
            intro v5 w5 hv5 hg5 hat5
            rw [World.size_alloc] at hat5
            obtain ⟨a5, c5, rfl, _⟩ := ownsRow_cell hv5
            have hc5 : Chg (fun b => vla.ownBlock = some b) (w2.alloc (.cells #[.slice va2 x.2.length vc2] 36)) w5 := Chg.of_grown hg5 (fun k e _ => e)
            have hVpo : ¬ vla.ownBlock = some w.heap.size := fun e => (hoQ.ap2 _ e).1 rfl
            have uQ5 := hc5.cell uQ3 (fun e => by have h1 : w.heap.size ≤ ab := (hlQ _ e).1; have h2 : ab < w.heap.size := hab; omega)
            have hobQ5 := hc5.obj hobQ3 hVpo
            have qQ5 := cell_of_heap hobQ5 (i := 2) (v := vla) (by rfl)
            have zQ5 := frozen_of_heap (i := 2) hobQ5
            refine hK.out _ _ (uQ5) (fun hHeld => ?_)
            clear hK K
            (try simp only [Act.put, List.setIfInBounds_toArray, List.set_cons_zero, List.set_cons_succ])
            refine wpAnyH_take (i := 13) (v := ?_) rfl (by kernel_rfl) (by kernel_rfl) (by kernel_rfl) (fun _ _ _ h => h) (Or.inl ⟨by rfl, ?_⟩) hHeld ?_
            rotate_left
            · intro w hSw; (try dsimp only at hSw); go_simp
              all_goals (with_reducible rfl)
            (try simp only [Act.put, List.setIfInBounds_toArray, List.set_cons_zero, List.set_cons_succ])
            refine wpAnyH_take (i := 14) (v := ?_) rfl (by kernel_rfl) (by kernel_rfl) (by kernel_rfl) (fun _ _ _ h => h) (Or.inl ⟨by rfl, ?_⟩) hHeld ?_
            rotate_left
            · intro w hSw; (try dsimp only at hSw); go_simp
              all_goals (with_reducible rfl)
            (try simp only [Act.put, List.setIfInBounds_toArray, List.set_cons_zero, List.set_cons_succ])
            refine wpAnyH_ready (rs := [15]) (by kernel_rfl) (by simp) ?_
            refine AllReadyH.cons rfl (fun K hK => ?_) AllReadyH.nil
            go_simp
            refine hK.out _ _ ((Chg.set (O := (· = w.heap.size)) _ rfl).cell uQ5 (by show ¬ ab = w.heap.size; have h2 : ab < w.heap.size := hab; omega)) (fun hHeld => ?_)
            clear hK K
            (try simp only [Act.put, List.setIfInBounds_toArray, List.set_cons_zero, List.set_cons_succ])
            refine wpAnyH_done (by kernel_rfl) ?_ _
            go_wp2_with fail
            go_meet
            case rel =>
              have hc25 : Chg (fun b => vla.ownBlock = some b) w2 w5 := (hc2a.mono (fun _ h _ => h.elim)).trans hc5 (fun _ h _ => h)
              have hz5 := hc5.size
              rw [World.size_alloc] at hz5
              exact ⟨rfl, _, _, OfR.last hoQ hb2 (BytesIn.of_owns hu2 (fun b h1 h2 => ⟨h1, h2⟩)) HX.out hc25 hv5 hat5 (by omega) (fun e => (hv5.lt _ e).2)⟩
          · skip
            go_simp
            have hc2a : Chg (fun _ => False) w2 (w2.alloc (.cells #[.slice va2 x.2.length vc2] 36)) := Chg.alloc _ _ _
            have uQ3 := hc2a.cell uQ2 (fun h => h)
            have qQ3 := hc2a.cell qQ2 (fun h => h)
            have hobQ3 := hc2a.obj hobQ2 (fun h => h)
            refine hK.out _ _ (uQ3) (fun hHeld => ?_)
            clear hK K
            (try simp only [Act.put, List.setIfInBounds_toArray, List.set_cons_zero, List.set_cons_succ])
            refine wpAnyH_ready (rs := [4]) (by kernel_rfl) (by simp) ?_
            refine AllReadyH.cons rfl (fun K hK => ?_) AllReadyH.nil
            go_simp
            refine hK.out _ _ (uQ3) (fun hHeld => ?_)
            clear hK K
            (try simp only [Act.put, List.setIfInBounds_toArray, List.set_cons_zero, List.set_cons_succ])
            refine wpAnyH_ready (rs := [12]) (by kernel_rfl) (by simp) ?_
            refine AllReadyH.cons rfl (fun K hK => ?_) AllReadyH.nil
            rw [if_pos (by rfl)]
            refine wp_append_own_at (.tmp 67) (.tmp 74) 81 rfl w.heap.size 36 i0 _ 1 24 Tryz.underlying81 hi hz0 hz1 hz2 rfl (by decide) vla k _ rfl (hc2a.row (hcb.row hoQ.la (fun _ _ h => h)) (fun _ _ h => h)) ⟨w2.heap.size, 0, none⟩ 1 1 [.slice va2 x.2.length vc2] rfl rfl (fun j u hu => by rw [addr_add]; exact cell_new w2 _ _ j u (by simpa using hu)) (by simp [Value.oneCell']) (by omega) (by omega) (by rw [World.size_alloc]; omega) ?_
            intro v5 w5 hv5 hg5 hat5
            rw [World.size_alloc] at hat5
            obtain ⟨a5, c5, rfl, _⟩ := ownsRow_cell hv5
            have hc5 : Chg (fun b => vla.ownBlock = some b) (w2.alloc (.cells #[.slice va2 x.2.length vc2] 36)) w5 := Chg.of_grown hg5 (fun k e _ => e)
            have hVpo : ¬ vla.ownBlock = some w.heap.size := fun e => (hoQ.ap2 _ e).1 rfl
            have uQ5 := hc5.cell uQ3 (fun e => by have h1 : w.heap.size ≤ ab := (hlQ _ e).1; have h2 : ab < w.heap.size := hab; omega)
            have hobQ5 := hc5.obj hobQ3 hVpo
            have qQ5 := cell_of_heap hobQ5 (i := 2) (v := vla) (by rfl)
            have zQ5 := frozen_of_heap (i := 2) hobQ5
            refine hK.out _ _ (uQ5) (fun hHeld => ?_)
            clear hK K
            (try simp only [Act.put, List.setIfInBounds_toArray, List.set_cons_zero, List.set_cons_succ])
            refine wpAnyH_take (i := 13) (v := ?_) rfl (by kernel_rfl) (by kernel_rfl) (by kernel_rfl) (fun _ _ _ h => h) (Or.inl ⟨by rfl, ?_⟩) hHeld ?_
            rotate_left
            · intro w hSw; (try dsimp only at hSw); go_simp
              all_goals (with_reducible rfl)
            (try simp only [Act.put, List.setIfInBounds_toArray, List.set_cons_zero, List.set_cons_succ])
            refine wpAnyH_take (i := 14) (v := ?_) rfl (by kernel_rfl) (by kernel_rfl) (by kernel_rfl) (fun _ _ _ h => h) (Or.inl ⟨by rfl, ?_⟩) hHeld ?_
            rotate_left
            · intro w hSw; (try dsimp only at hSw); go_simp
              all_goals (with_reducible rfl)
            (try simp only [Act.put, List.setIfInBounds_toArray, List.set_cons_zero, List.set_cons_succ])
            refine wpAnyH_ready (rs := [15]) (by kernel_rfl) (by simp) ?_
            refine AllReadyH.cons rfl (fun K hK => ?_) AllReadyH.nil
            go_simp
            refine hK.out _ _ ((Chg.set (O := (· = w.heap.size)) _ rfl).cell uQ5 (by show ¬ ab = w.heap.size; have h2 : ab < w.heap.size := hab; omega)) (fun hHeld => ?_)
            clear hK K
            (try simp only [Act.put, List.setIfInBounds_toArray, List.set_cons_zero, List.set_cons_succ])
            refine wpAnyH_done (by kernel_rfl) ?_ _
            go_wp2_with fail
            go_meet
            case rel =>
              have hc25 : Chg (fun b => vla.ownBlock = some b) w2 w5 := (hc2a.mono (fun _ h _ => h.elim)).trans hc5 (fun _ h _ => h)
              have hz5 := hc5.size
              rw [World.size_alloc] at hz5
              exact ⟨rfl, _, _, OfR.last hoQ hb2 (BytesIn.of_owns hu2 (fun b h1 h2 => ⟨h1, h2⟩)) HX.out hc25 hv5 hat5 (by omega) (fun e => (hv5.lt _ e).2)⟩
      case rest =>
      obtain ⟨h47, vla9, u10, hO9⟩ := hcut
      subst h47
      have HOQ11 := Lib.hid hO9
      clear hO9 HOQ10
      go_upto_region 11 with fail
      have hoQ := HOQ11.out
      have hobQ := hoQ.cells
      have qQ := cell_of_heap hobQ (i := 3) (v := vna) (by rfl)
      have uQ := (Chg.of_below (O := fun _ => False) hoQ.hb).cell n0 (fun h => h)
      have hszQ := hoQ.hb.size
      have hpoQ := heap_lt hobQ
      have hlQ := fun b hb => (hoQ.na.lt b hb)
      refine wp_region_held_drew (S := fun w' => w'.cell? ⟨ab, ao + k * 2, none⟩ = some (.string ⟨x.1.toArray⟩)) (by kernel_rfl) (uQ) (fun hHeld => ?_)
      refine wpAnyH_take (i := 0) (v := ?_) rfl (by kernel_rfl) (by kernel_rfl) (by kernel_rfl) (fun _ _ _ h => h) (Or.inl ⟨by rfl, ?_⟩) hHeld ?_
      rotate_left
      · intro w hSw; (try dsimp only at hSw); go_simp
        all_goals (with_reducible rfl)
      (try simp only [Act.put, List.setIfInBounds_toArray, List.set_cons_zero, List.set_cons_succ])
      refine wpAnyH_take (i := 1) (v := ?_) rfl (by kernel_rfl) (by kernel_rfl) (by kernel_rfl) (fun _ _ _ h => h) (Or.inl ⟨by rfl, ?_⟩) hHeld ?_
      rotate_left
      · intro w hSw; (try dsimp only at hSw); go_simp
        all_goals (with_reducible rfl)
      (try simp only [Act.put, List.setIfInBounds_toArray, List.set_cons_zero, List.set_cons_succ])
      refine wpAnyH_take (i := 2) (v := ?_) rfl (by kernel_rfl) (by kernel_rfl) (by kernel_rfl) (fun _ _ _ h => h) (Or.inl ⟨by rfl, ?_⟩) hHeld ?_
      rotate_left
      · intro w hSw; (try dsimp only at hSw); go_simp
        all_goals (with_reducible rfl)
      (try simp only [Act.put, List.setIfInBounds_toArray, List.set_cons_zero, List.set_cons_succ])
      refine wpAnyH_take (i := 3) (v := ?_) rfl (by kernel_rfl) (by kernel_rfl) (by kernel_rfl) (fun _ _ _ h => h) (Or.inl ⟨by rfl, ?_⟩) hHeld ?_
      rotate_left
      · intro w hSw; (try dsimp only at hSw); go_simp
        all_goals (with_reducible rfl)
      (try simp only [Act.put, List.setIfInBounds_toArray, List.set_cons_zero, List.set_cons_succ])
      refine wpAnyH_take (i := 5) (v := ?_) rfl (by kernel_rfl) (by kernel_rfl) (by kernel_rfl) (fun _ _ _ h => h) (Or.inl ⟨by rfl, ?_⟩) hHeld ?_
      rotate_left
      · intro w hSw; (try dsimp only at hSw); go_simp
        all_goals (with_reducible rfl)
      (try simp only [Act.put, List.setIfInBounds_toArray, List.set_cons_zero, List.set_cons_succ])
      refine wpAnyH_take (i := 6) (v := ?_) rfl (by kernel_rfl) (by kernel_rfl) (by kernel_rfl) (fun _ _ _ h => h) (Or.inl ⟨by rfl, ?_⟩) hHeld ?_
      rotate_left
      · intro w hSw; (try dsimp only at hSw); go_simp
        all_goals (with_reducible rfl)
      (try simp only [Act.put, List.setIfInBounds_toArray, List.set_cons_zero, List.set_cons_succ])
      refine wpAnyH_take (i := 7) (v := ?_) rfl (by kernel_rfl) (by kernel_rfl) (by kernel_rfl) (fun _ _ _ h => h) (Or.inl ⟨by rfl, ?_⟩) hHeld ?_
      rotate_left
      · intro w hSw; (try dsimp only at hSw); go_simp
        all_goals (with_reducible rfl)
      (try simp only [Act.put, List.setIfInBounds_toArray, List.set_cons_zero, List.set_cons_succ])
      refine wpAnyH_take (i := 8) (v := ?_) rfl (by kernel_rfl) (by kernel_rfl) (by kernel_rfl) (fun _ _ _ h => h) (Or.inl ⟨by rfl, ?_⟩) hHeld ?_
      rotate_left
      · intro w hSw; (try dsimp only at hSw); go_simp
        all_goals (with_reducible rfl)
      (try simp only [Act.put, List.setIfInBounds_toArray, List.set_cons_zero, List.set_cons_succ])
      refine wpAnyH_take (i := 9) (v := ?_) rfl (by kernel_rfl) (by kernel_rfl) (by kernel_rfl) (fun _ _ _ h => h) (Or.inl ⟨by rfl, ?_⟩) hHeld ?_
      rotate_left
      · intro w hSw; (try dsimp only at hSw); go_simp
        all_goals (with_reducible rfl)
      (try simp only [Act.put, List.setIfInBounds_toArray, List.set_cons_zero, List.set_cons_succ])
      refine wpAnyH_take (i := 10) (v := ?_) rfl (by kernel_rfl) (by kernel_rfl) (by kernel_rfl) (fun _ _ _ h => h) (Or.inl ⟨by rfl, ?_⟩) hHeld ?_
      rotate_left
      · intro w hSw; (try dsimp only at hSw); go_simp
        all_goals (with_reducible rfl)
      (try simp only [Act.put, List.setIfInBounds_toArray, List.set_cons_zero, List.set_cons_succ])
      refine wpAnyH_take (i := 11) (v := ?_) rfl (by kernel_rfl) (by kernel_rfl) (by kernel_rfl) (fun _ _ _ h => h) (Or.inl ⟨by rfl, ?_⟩) hHeld ?_
      rotate_left
      · intro w hSw; (try dsimp only at hSw); go_simp
        all_goals (with_reducible rfl)
      (try simp only [Act.put, List.setIfInBounds_toArray, List.set_cons_zero, List.set_cons_succ])
      refine wpAnyH_ready (rs := [4, 12]) (by kernel_rfl) (by simp) ?_
      refine AllReadyH.cons rfl (fun K hK => ?_) (AllReadyH.cons rfl (fun K hK => ?_) AllReadyH.nil)
      · skip
        go_simp
        refine hK.out _ _ (uQ) (fun hHeld => ?_)
        clear hK K
        (try simp only [Act.put, List.setIfInBounds_toArray, List.set_cons_zero, List.set_cons_succ])
        refine wpAnyH_ready (rs := [12]) (by kernel_rfl) (by simp) ?_
        refine AllReadyH.cons rfl (fun K hK => ?_) AllReadyH.nil
        go_simp
        have hc2a : Chg (fun _ => False) wc (wc.alloc (.cells #[.string ⟨x.1.toArray⟩, .int .i64 (k : Int)] 88)).drew := (Chg.alloc (fun _ => False) wc _).drew
        have uQ3 := hc2a.cell uQ (fun h => h)
        have qQ3 := hc2a.cell qQ (fun h => h)
        have hobQ3 := hc2a.obj hobQ (fun h => h)
        refine hK.out _ _ (uQ3) (fun hHeld => ?_)
        clear hK K
        (try simp only [Act.put, List.setIfInBounds_toArray, List.set_cons_zero, List.set_cons_succ])
        refine wpAnyH_ready (rs := [13]) (by kernel_rfl) (by simp) ?_
        refine AllReadyH.cons rfl (fun K hK => ?_) AllReadyH.nil
        rw [if_pos (by rfl)]
        refine wp_append_own_at (.tmp 82) (.tmp 90) 82 rfl w.heap.size 88 i1 _ 2 24 Tryz.underlying82 hi1 hw0 hw1 hw2 rfl (by decide) vna k _ rfl (hc2a.row hoQ.na (fun _ _ h => h)) ⟨wc.heap.size, 0, none⟩ 1 1 [.string ⟨x.1.toArray⟩, .int .i64 (k : Int)] rfl rfl (fun j u hu => by rw [addr_add]; exact cell_new wc #[.string ⟨x.1.toArray⟩, .int .i64 (k : Int)] 88 j u (by simpa using hu)) (by simp [Value.oneCell']) (by omega) (by omega) (by show w.heap.size ≤ (wc.alloc (.cells #[.string ⟨x.1.toArray⟩, .int .i64 (k : Int)] 88)).heap.size; rw [World.size_alloc]; omega) ?_
        intro v5 w5 hv5 hg5 hat5
        change v5.ownBlock = vna.ownBlock ∨ v5.ownBlock = some (wc.alloc (.cells #[.string ⟨x.1.toArray⟩, .int .i64 (k : Int)] 88)).heap.size at hat5
        rw [World.size_alloc] at hat5
        obtain ⟨a5, c5, rfl, _⟩ := ownsRow_cell hv5
        have hc5 : Chg (fun b => vna.ownBlock = some b) (wc.alloc (.cells #[.string ⟨x.1.toArray⟩, .int .i64 (k : Int)] 88)).drew w5 := Chg.of_grown hg5 (fun k e _ => e)
        have hVpo : ¬ vna.ownBlock = some w.heap.size := fun e => hoQ.ap3 _ e rfl
        have uQ5 := hc5.cell uQ3 (fun e => by have h1 : w.heap.size ≤ ab := (hlQ _ e).1; have h2 : ab < w.heap.size := hab; omega)
        have hobQ5 := hc5.obj hobQ3 hVpo
        have qQ5 := cell_of_heap hobQ5 (i := 3) (v := vna) (by rfl)
        have zQ5 := frozen_of_heap (i := 3) hobQ5
        refine hK.out _ _ (uQ5) (fun hHeld => ?_)
        clear hK K
        (try simp only [Act.put, List.setIfInBounds_toArray, List.set_cons_zero, List.set_cons_succ])
        refine wpAnyH_take (i := 14) (v := ?_) rfl (by kernel_rfl) (by kernel_rfl) (by kernel_rfl) (fun _ _ _ h => h) (Or.inl ⟨by rfl, ?_⟩) hHeld ?_
        rotate_left
        · intro w hSw; (try dsimp only at hSw); go_simp
          all_goals (with_reducible rfl)
        (try simp only [Act.put, List.setIfInBounds_toArray, List.set_cons_zero, List.set_cons_succ])
        refine wpAnyH_take (i := 15) (v := ?_) rfl (by kernel_rfl) (by kernel_rfl) (by kernel_rfl) (fun _ _ _ h => h) (Or.inl ⟨by rfl, ?_⟩) hHeld ?_
        rotate_left
        · intro w hSw; (try dsimp only at hSw); go_simp
          all_goals (with_reducible rfl)
        (try simp only [Act.put, List.setIfInBounds_toArray, List.set_cons_zero, List.set_cons_succ])
        refine wpAnyH_ready (rs := [16]) (by kernel_rfl) (by simp) ?_
        refine AllReadyH.cons rfl (fun K hK => ?_) AllReadyH.nil
        go_simp
        refine hK.out _ _ ((Chg.set (O := (· = w.heap.size)) _ rfl).cell uQ5 (by show ¬ ab = w.heap.size; have h2 : ab < w.heap.size := hab; omega)) (fun hHeld => ?_)
        clear hK K
        (try simp only [Act.put, List.setIfInBounds_toArray, List.set_cons_zero, List.set_cons_succ])
        refine wpAnyH_done (by kernel_rfl) ?_ _
        have hc25 : Chg (fun b => vna.ownBlock = some b) wc w5 := (hc2a.mono (fun _ h _ => h.elim)).trans hc5 (fun _ h _ => h)
        have hz5 : (wc.alloc (.cells #[.string ⟨x.1.toArray⟩, .int .i64 (k : Int)] 88)).heap.size ≤ w5.heap.size := hc5.size
        rw [World.size_alloc] at hz5
        have HO9 := Lib.hid (OfR.name (u := .slice none 0 0) hoQ (Below.refl _ _) HX.out (by omega) hc25 hv5 hat5 (by show wc.heap.size ≤ wc.heap.size + 1; omega) (fun e => (hv5.lt _ e).2))
        clear hHeld hc25 hz5 zQ5 qQ5 hobQ5 uQ5 hc5 hobQ3 qQ3 uQ3 hc2a hoQ hobQ qQ uQ hlQ
        go_wp2
        go_roundw
        case rel => exact ⟨k + 1, by omega, by go_num, ⟨_, _, _, _, _, HO9.out⟩, HGD⟩
        case measure => simp [RowKit.intOf]; omega
      · skip
        go_simp
        have hc2a : Chg (fun _ => False) wc (wc.alloc (.cells #[.string ⟨x.1.toArray⟩, .int .i64 (k : Int)] 88)).drew := (Chg.alloc (fun _ => False) wc _).drew
        have uQ3 := hc2a.cell uQ (fun h => h)
        have qQ3 := hc2a.cell qQ (fun h => h)
        have hobQ3 := hc2a.obj hobQ (fun h => h)
        refine hK.out _ _ (uQ3) (fun hHeld => ?_)
        clear hK K
        (try simp only [Act.put, List.setIfInBounds_toArray, List.set_cons_zero, List.set_cons_succ])
        refine wpAnyH_ready (rs := [4]) (by kernel_rfl) (by simp) ?_
        refine AllReadyH.cons rfl (fun K hK => ?_) AllReadyH.nil
        go_simp
        refine hK.out _ _ (uQ3) (fun hHeld => ?_)
        clear hK K
        (try simp only [Act.put, List.setIfInBounds_toArray, List.set_cons_zero, List.set_cons_succ])
        refine wpAnyH_ready (rs := [13]) (by kernel_rfl) (by simp) ?_
        refine AllReadyH.cons rfl (fun K hK => ?_) AllReadyH.nil
        rw [if_pos (by rfl)]
        refine wp_append_own_at (.tmp 82) (.tmp 90) 82 rfl w.heap.size 88 i1 _ 2 24 Tryz.underlying82 hi1 hw0 hw1 hw2 rfl (by decide) vna k _ rfl (hc2a.row hoQ.na (fun _ _ h => h)) ⟨wc.heap.size, 0, none⟩ 1 1 [.string ⟨x.1.toArray⟩, .int .i64 (k : Int)] rfl rfl (fun j u hu => by rw [addr_add]; exact cell_new wc #[.string ⟨x.1.toArray⟩, .int .i64 (k : Int)] 88 j u (by simpa using hu)) (by simp [Value.oneCell']) (by omega) (by omega) (by show w.heap.size ≤ (wc.alloc (.cells #[.string ⟨x.1.toArray⟩, .int .i64 (k : Int)] 88)).heap.size; rw [World.size_alloc]; omega) ?_
        intro v5 w5 hv5 hg5 hat5
        change v5.ownBlock = vna.ownBlock ∨ v5.ownBlock = some (wc.alloc (.cells #[.string ⟨x.1.toArray⟩, .int .i64 (k : Int)] 88)).heap.size at hat5
        rw [World.size_alloc] at hat5
        obtain ⟨a5, c5, rfl, _⟩ := ownsRow_cell hv5
        have hc5 : Chg (fun b => vna.ownBlock = some b) (wc.alloc (.cells #[.string ⟨x.1.toArray⟩, .int .i64 (k : Int)] 88)).drew w5 := Chg.of_grown hg5 (fun k e _ => e)
        have hVpo : ¬ vna.ownBlock = some w.heap.size := fun e => hoQ.ap3 _ e rfl
        have uQ5 := hc5.cell uQ3 (fun e => by have h1 : w.heap.size ≤ ab := (hlQ _ e).1; have h2 : ab < w.heap.size := hab; omega)
        have hobQ5 := hc5.obj hobQ3 hVpo
        have qQ5 := cell_of_heap hobQ5 (i := 3) (v := vna) (by rfl)
        have zQ5 := frozen_of_heap (i := 3) hobQ5
        refine hK.out _ _ (uQ5) (fun hHeld => ?_)
        clear hK K
        (try simp only [Act.put, List.setIfInBounds_toArray, List.set_cons_zero, List.set_cons_succ])
        refine wpAnyH_take (i := 14) (v := ?_) rfl (by kernel_rfl) (by kernel_rfl) (by kernel_rfl) (fun _ _ _ h => h) (Or.inl ⟨by rfl, ?_⟩) hHeld ?_
        rotate_left
        · intro w hSw; (try dsimp only at hSw); go_simp
          all_goals (with_reducible rfl)
        (try simp only [Act.put, List.setIfInBounds_toArray, List.set_cons_zero, List.set_cons_succ])
        refine wpAnyH_take (i := 15) (v := ?_) rfl (by kernel_rfl) (by kernel_rfl) (by kernel_rfl) (fun _ _ _ h => h) (Or.inl ⟨by rfl, ?_⟩) hHeld ?_
        rotate_left
        · intro w hSw; (try dsimp only at hSw); go_simp
          all_goals (with_reducible rfl)
        (try simp only [Act.put, List.setIfInBounds_toArray, List.set_cons_zero, List.set_cons_succ])
        refine wpAnyH_ready (rs := [16]) (by kernel_rfl) (by simp) ?_
        refine AllReadyH.cons rfl (fun K hK => ?_) AllReadyH.nil
        go_simp
        refine hK.out _ _ ((Chg.set (O := (· = w.heap.size)) _ rfl).cell uQ5 (by show ¬ ab = w.heap.size; have h2 : ab < w.heap.size := hab; omega)) (fun hHeld => ?_)
        clear hK K
        (try simp only [Act.put, List.setIfInBounds_toArray, List.set_cons_zero, List.set_cons_succ])
        refine wpAnyH_done (by kernel_rfl) ?_ _
        have hc25 : Chg (fun b => vna.ownBlock = some b) wc w5 := (hc2a.mono (fun _ h _ => h.elim)).trans hc5 (fun _ h _ => h)
        have hz5 : (wc.alloc (.cells #[.string ⟨x.1.toArray⟩, .int .i64 (k : Int)] 88)).heap.size ≤ w5.heap.size := hc5.size
        rw [World.size_alloc] at hz5
        have HO9 := Lib.hid (OfR.name (u := .slice none 0 0) hoQ (Below.refl _ _) HX.out (by omega) hc25 hv5 hat5 (by show wc.heap.size ≤ wc.heap.size + 1; omega) (fun e => (hv5.lt _ e).2))
        clear hHeld hc25 hz5 zQ5 qQ5 hobQ5 uQ5 hc5 hobQ3 qQ3 uQ3 hc2a hoQ hobQ qQ uQ hlQ
        go_wp2
        go_roundw
        case rel => exact ⟨k + 1, by omega, by go_num, ⟨_, _, _, _, _, HO9.out⟩, HGD⟩
        case measure => simp [RowKit.intOf]; omega
    · obtain rfl : k = L.length := by omega
      obtain ⟨vst, vla, vna, xs, ys, hof⟩ := HO.out
      have hg := HG.out
      rw [List.take_length] at hg
      have hna := hof.na
      rw [List.take_length] at hna
      obtain ⟨na, nc, rfl, hn1, hn2, hnrow, hnl⟩ := ownsRow_rowAt hna
      have hob := hof.cells
      have q3 := cell_of_heap hob (i := 3) (v := .slice na L.length nc) (by rfl)
      have hj1 : ¬ (L.length : Int) < (L.length : Int) := by omega
      have hpo := heap_lt hob
      have hsw := hof.hb.size
      have HOF := Lib.hid hof
      have HGD := Lib.hid hg
      have hone := one_encN (ofNames L)
      clear hof hg HO HG hA hsz hnm hS
      go_wp2_with (at_builtin; refine wpList_append_anyK _ rfl (.const (.slice none 0 0)) (.tmp 98) 82 rfl wr.heap.size 88 i1 _ 2 24 Tryz.underlying82 hi1 hw0 hw1 hw2 rfl (by decide) _ 0 [] rfl (World.ownsRow_nil _ _ _ _) na L.length nc _ rfl hnl hn2 hnrow hone (by omega) (by omega) (Nat.le_refl _) ?_; intro v5 w5 hv5 hg5; rw [Nat.zero_add, List.nil_append] at hv5; have hc5 : Chg (fun _ => False) wr w5 := Chg.of_grown hg5 (fun k e => by cases e); have hob5 := hc5.obj hob (fun h => h); have q4 := cell_of_heap hob5 (i := 4) (v := .slice none 0 0) (by rfl); have z4 := frozen_of_heap (i := 4) hob5; obtain ⟨a5, c5, rfl, _⟩ := ownsRow_cell hv5)
      go_ret2
      obtain ⟨R, hD1, hD2, hD3⟩ := ofR_done HOF.out hv5 hc5
      exact ⟨.inl ⟨HGD.out, _, rfl, Nat.le_refl _, R, hD1, hD2⟩, hD3⟩

end Go.Proofs.YtgckcnnnblggbaaGreat
