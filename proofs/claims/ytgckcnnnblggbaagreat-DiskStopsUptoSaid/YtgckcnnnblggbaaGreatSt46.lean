/- Texts of this claim, one behind the other: ReL. -/
import Derived.Test.YtgckcnnnblggbaaGreatSt45
set_option linter.unusedSimpArgs false
set_option linter.unusedVariables false
/- DiskStops: the walk. (printed by gen/dstops.py) -/
namespace Go.Proofs.YtgckcnnnblggbaaGreat
open Go.RowKit Go.Maps

set_option maxRecDepth 100000 in
set_option maxHeartbeats 16000000 in
theorem diskStops_walk {w : World} {cap : Int} {fa aa ba : Option Addr} {fc ac bc : Nat} {L : List (List UInt8 × List UInt8)} {xs : List AStep} {ys : List AStop}
    (hA : FilesArg w fa L) (hxs : AStepsArg w aa xs) (hys : AStopsArg w ba ys) (hxo : ∀ x ∈ xs, x.Ok) (hyo : ∀ y ∈ ys, y.keep.length ≤ maxLen ∧ y.torn < 9223372036854775808) (hyl : ys.length ≤ maxLen)
    (hLn : ∀ p ∈ L, p.1.length ≤ maxLen) (hLM : ∀ p ∈ L, p.2.length ≤ 1048576) (hbulk : L.length + xs.length ≤ 1048574) :
    Calls Tryz.prog 3 #[.agg #[.int .i64 cap, .slice fa L.length fc], .slice aa xs.length ac, .slice ba ys.length bc] w fun e w' => e = .returned (.bool true) ∧ Below w.heap.size w w' := by
  have hmx : maxList = 4194304 := rfl
  have hmax : maxLen = 9223372036854775807 := rfl
  have hmf : maxFile = 1099511627776 := rfl
  obtain ⟨w1, hw1⟩ : ∃ w1, w.alloc (.cells #[.int .i64 cap, .slice fa L.length fc] 24) = w1 := ⟨_, rfl⟩
  have hb1 : Below w.heap.size w w1 := by rw [← hw1]; exact below_alloc w _
  have b5 : w1.heap[w.heap.size]? = some (.cells #[.int .i64 cap, .slice fa L.length fc] 24 (0, 0)) := by rw [← hw1]; exact World.alloc_heap_new w _
  have c0 := cell_of_heap b5 (i := 0) (v := .int .i64 cap) (by rfl)
  have c1 := cell_of_heap b5 (i := 1) (v := .slice fa L.length fc) (by rfl)
  have hz1 : w1.heap.size = w.heap.size + 1 := by rw [← hw1]; simp
  have cK := known_any
  have cN := num_any
  have hs1 := start1 (cap := cap) (c := fc) (hA.below hb1) (by omega) (fun p hp => by have := hLM p hp; omega) hLn
  have hst := startO_ok (cap := cap) (L := L) (fun p hp => by have := hLM p hp; omega)
  have hcap := startO_cap (cap := cap) (L := L)
  have hz : w.heap.size < w1.heap.size := by omega
  clear b5
  go_enter Tryz.func3, Tryz.ntmps3
  go_upto_region 3 with (first
    | rw [hw1]
    | (go_at_call 6; refine hs1.mono ?_; rintro _ w2 ⟨q1, rfl, hh1, hb2⟩; have c02 := (hb2.cell (p := ⟨w.heap.size, 0, none⟩) hz).trans c0; have c12 := (hb2.cell (p := ⟨w.heap.size, 1, none⟩) hz).trans c1; have hs2 := start2 (cap := cap) (c := fc) ((hA.below hb1).below hb2) (by omega) (fun p hp => by have := hLM p hp; omega) hLn)
    | (go_at_call 7; refine hs2.mono ?_; rintro _ w3 ⟨q2, rfl, hh2, hb3⟩))
  have hb13 : Below w1.heap.size w1 w3 := hb2.trans (hb3.mono hb2.size)
  have c03 := (hb13.cell (p := ⟨w.heap.size, 0, none⟩) hz).trans c0
  obtain ⟨F, G, hP, hF, hG0⟩ := PairO.join hh1 hb3 hh2 (fun _ h => h.elim) hb2.size
  have hG : ∀ b, G b → w1.heap.size ≤ b ∧ b < w3.heap.size := fun b hb => ⟨(hG0 b hb).1.resolve_left (fun h => h.elim), (hG0 b hb).2⟩
  clear hG0 hh1 hh2 hs1 hs2 c0 c1 c02 c12
  obtain ⟨o0, ho0⟩ : ∃ o, startO cap L = o := ⟨_, rfl⟩
  rw [ho0] at hP hst hcap ⊢
  clear ho0
  cases o0 with
  | none =>
    obtain ⟨rfl, rfl⟩ : q1 = none ∧ q2 = none := ⟨hP.1, hP.2⟩
    go_wp2_with (go_at_call 8; refine (cN _ _).mono ?_; rintro _ wn ⟨rfl, rfl⟩)
    go_loopw [11] (fun i wr => ∃ k : Nat, k ≤ xs.length ∧ i = .int .i64 k ∧ Below w1.heap.size w1 wr ∧ ∃ F G, PairO F G wr none (stepsO none xs k) none (stepsO none xs k) ∧ (∀ b, F b → w1.heap.size ≤ b ∧ b < wr.heap.size) ∧ (∀ b, G b → w1.heap.size ≤ b ∧ b < wr.heap.size)) (fun i _ => xs.length - (RowKit.intOf i).toNat)
    case atStart => exact ⟨0, by omega, rfl, hb13, F, G, hP, hF, hG⟩
    case round =>
      clear hP hF hG F G c03
      obtain ⟨k, hk, rfl, hb, F, G, hP, hF, hG⟩ := hrel
      obtain ⟨hok, hwh, hwr, hne⟩ := stepsO_ok hst.1 hst.2.1 hst.2.2 xs k hk
      have hb0r : Below w.heap.size w wr := hb1.trans (hb.mono hb1.size)
      by_cases hlt : k < xs.length
      · obtain ⟨x, hx⟩ : ∃ x, xs[k]? = some x := ⟨xs[k]'hlt, by simp⟩
        obtain ⟨xb, xo, rfl, hcs⟩ := hxs (fun e => by
          have h0 : xs.length = 0 := by rw [e]; rfl
          omega)
        obtain ⟨da, ka, dc, kc, hcell0, hnil, hrow0, _⟩ := hcs k x hx
        have hcell : ∀ (j : Nat) u, (encA x da dc ka kc)[j]? = some u → wr.cell? ⟨xb, xo + k * 10 + j, none⟩ = some u := fun j u hu => (hb0r.cell (p := ⟨xb, xo + k * 10 + j, none⟩) (cell_lt (hcell0 j u hu))).trans (hcell0 j u hu)
        have h0 : wr.cell? ⟨xb, xo + k * 10, none⟩ = some (.int .i64 x.kind) := by have := hcell 0 (.int .i64 x.kind) rfl; simpa using this
        have h1 := hcell 1 (.int .i64 x.who) rfl
        have h2 := hcell 2 (.string ⟨x.name.toArray⟩) rfl
        have h3 := hcell 3 (.string ⟨x.dst.toArray⟩) rfl
        have h4 := hcell 4 (.int .i64 x.at_) rfl
        have h5 := hcell 5 (.int .i64 x.n) rfl
        have h6 := hcell 6 (.slice da x.data.length dc) rfl
        have h7 := hcell 7 (.int .i64 x.sn) rfl
        have h8 := hcell 8 (.slice ka x.keep.length kc) rfl
        have h9 := hcell 9 (.int .i64 x.st) rfl
        have hdl := bytes_lt hrow0
        have hzr := hb.size
        have hdo := asks_law hP (lo := w1.heap.size) (ka := ka) (kc := kc) (hxo x (List.mem_of_getElem? hx)) (hrow0.below hb0r) hnil (fun y e hd => by have := hdl y e hd; omega) hok (by omega) hb.size hF hG
        unfold encA at hdo
        have HX := Lib.hid hx
        have HP := Lib.hid (And.intro hF (And.intro hG (And.intro hok (And.intro hwh hwr))))
        have HCS := Lib.hid hcs
        have j0 : (0 : Int) ≤ (k : Int) := by omega
        have j1 : (k : Int) < (xs.length : Int) := by omega
        clear hx hcs hP hF hG hok hwh hwr hne hcell hcell0 hrow0 hnil hdl
        go_wp2_with (go_at_call 9; refine hdo.mono ?_; rintro _ w4 ⟨rfl, hc4, hb4, F', G', hP', hF', hG'⟩)
        go_roundw
        case rel => exact ⟨k + 1, by omega, by go_num, hb.trans hb4, F', G', by rw [stepsO_succ HX.out]; exact hP', fun b hb => ⟨(hF' b hb).1.elim (fun h => (HP.out.1 b h).1) (fun h => by have := HP.out.2.2; omega), (hF' b hb).2⟩, fun b hb => ⟨(hG' b hb).1.elim (fun h => (HP.out.2.1 b h).1) (fun h => by omega), (hG' b hb).2⟩⟩
        case measure => simp [RowKit.intOf]; omega
      · obtain rfl : k = xs.length := by omega
        have j1 : ¬ (xs.length : Int) < (xs.length : Int) := by omega
        rename World => w5
        have hb5 := hb
        have hb05 := hb0r
        clear hb hb0r
        clear hP hF hG F G hok hwh hwr hne
        go_wp2
        go_loopw [12] (fun i wr => ∃ k : Nat, k ≤ ys.length ∧ i = .int .i64 k ∧ Below w5.heap.size w5 wr) (fun i _ => ys.length - (RowKit.intOf i).toNat)
        case atStart => exact ⟨0, by omega, rfl, Below.refl _ _⟩
        case round =>
          obtain ⟨k, hk, rfl, hb⟩ := hrel
          have hb0r : Below w.heap.size w wr := hb05.trans (hb.mono hb05.size)
          by_cases hlt : k < ys.length
          · obtain ⟨y, hy⟩ : ∃ y, ys[k]? = some y := ⟨ys[k]'hlt, by simp⟩
            obtain ⟨yb, yo, rfl, hcs⟩ := (hys.below hb0r) (fun e => by
              have h0 : ys.length = 0 := by rw [e]; rfl
              omega)
            obtain ⟨ka, kc, d0, d1, d2, hkr⟩ := hcs k y hy
            have HCS := Lib.hid hcs
            have HY := Lib.hid hy
            clear hcs hy
            have j0 : (0 : Int) ≤ (k : Int) := by omega
            have j1 : (k : Int) < (ys.length : Int) := by omega
            have hcc : Calls Tryz.prog 10 #[.pointer none, .agg #[.int .i64 y.names, .slice ka y.keep.length kc, .int .i64 y.torn]] wr.drew fun e w' => e = .returned (.pointer none) ∧ Below wr.drew.heap.size wr.drew w' := Stop_nil (.inl rfl)
            go_upto_region 13 with fail
            refine wp_region_held_drew (S := fun w' => w'.cell? ⟨yb, yo + k * 3, none⟩ = some (.int .i64 y.names) ∧ w'.cell? ⟨yb, yo + k * 3 + 1, none⟩ = some (.slice ka y.keep.length kc) ∧ w'.cell? ⟨yb, yo + k * 3 + 2, none⟩ = some (.int .i64 y.torn)) (by kernel_rfl) (⟨d0, d1, d2⟩) (fun hHeld => ?_)
            refine wpAnyH_take (i := 0) (v := ?_) rfl (by kernel_rfl) (by kernel_rfl) (by kernel_rfl) (fun _ _ _ h => h) (Or.inl ⟨by rfl, ?_⟩) hHeld ?_
            rotate_left
            · intro w hSw; (try dsimp only at hSw); go_simp
              all_goals (with_reducible rfl)
            (try simp only [Act.put, List.setIfInBounds_toArray, List.set_cons_zero, List.set_cons_succ])
            refine wpAnyH_take (i := 1) (v := ?_) rfl (by kernel_rfl) (by kernel_rfl) (by kernel_rfl) (fun _ _ _ h => h) (Or.inl ⟨by rfl, ?_⟩) hHeld ?_
            rotate_left
            · intro w hSw; (try dsimp only at hSw); go_simp
              all_goals (with_reducible rfl)
            (try simp only [Act.put, List.setIfInBounds_toArray, List.set_cons_zero, List.set_cons_succ])
            refine wpAnyH_take (i := 2) (v := ?_) rfl (by kernel_rfl) (by kernel_rfl) (by kernel_rfl) (fun _ _ _ h => h) (Or.inl ⟨by rfl, ?_⟩) hHeld ?_
            rotate_left
            · intro w hSw; (try dsimp only at hSw); go_simp
              all_goals (with_reducible rfl)
            (try simp only [Act.put, List.setIfInBounds_toArray, List.set_cons_zero, List.set_cons_succ])
            refine wpAnyH_take (i := 3) (v := ?_) rfl (by kernel_rfl) (by kernel_rfl) (by kernel_rfl) (fun _ _ _ h => h) (Or.inl ⟨by rfl, ?_⟩) hHeld ?_
            rotate_left
            · intro w hSw; (try dsimp only at hSw); go_simp
              all_goals (with_reducible rfl)
            (try simp only [Act.put, List.setIfInBounds_toArray, List.set_cons_zero, List.set_cons_succ])
            refine wpAnyH_take (i := 4) (v := ?_) rfl (by kernel_rfl) (by kernel_rfl) (by kernel_rfl) (fun _ _ _ h => h) (Or.inl ⟨by rfl, ?_⟩) hHeld ?_
            rotate_left
            · intro w hSw; (try dsimp only at hSw); go_simp
              all_goals (with_reducible rfl)
            (try simp only [Act.put, List.setIfInBounds_toArray, List.set_cons_zero, List.set_cons_succ])
            refine wpAnyH_take (i := 6) (v := ?_) rfl (by kernel_rfl) (by kernel_rfl) (by kernel_rfl) (fun _ _ _ h => h) (Or.inl ⟨by rfl, ?_⟩) hHeld ?_
            rotate_left
            · intro w hSw; (try dsimp only at hSw); go_simp
              all_goals (with_reducible rfl)
            (try simp only [Act.put, List.setIfInBounds_toArray, List.set_cons_zero, List.set_cons_succ])
            refine wpAnyH_take (i := 7) (v := ?_) rfl (by kernel_rfl) (by kernel_rfl) (by kernel_rfl) (fun _ _ _ h => h) (Or.inl ⟨by rfl, ?_⟩) hHeld ?_
            rotate_left
            · intro w hSw; (try dsimp only at hSw); go_simp
              all_goals (with_reducible rfl)
            (try simp only [Act.put, List.setIfInBounds_toArray, List.set_cons_zero, List.set_cons_succ])
            refine wpAnyH_take (i := 8) (v := ?_) rfl (by kernel_rfl) (by kernel_rfl) (by kernel_rfl) (fun _ _ _ h => h) (Or.inl ⟨by rfl, ?_⟩) hHeld ?_
            rotate_left
            · intro w hSw; (try dsimp only at hSw); go_simp
              all_goals (with_reducible rfl)
            (try simp only [Act.put, List.setIfInBounds_toArray, List.set_cons_zero, List.set_cons_succ])
            refine wpAnyH_take (i := 9) (v := ?_) rfl (by kernel_rfl) (by kernel_rfl) (by kernel_rfl) (fun _ _ _ h => h) (Or.inl ⟨by rfl, ?_⟩) hHeld ?_
            rotate_left
            · intro w hSw; (try dsimp only at hSw); go_simp
              all_goals (with_reducible rfl)
            (try simp only [Act.put, List.setIfInBounds_toArray, List.set_cons_zero, List.set_cons_succ])
            refine wpAnyH_take (i := 10) (v := ?_) rfl (by kernel_rfl) (by kernel_rfl) (by kernel_rfl) (fun _ _ _ h => h) (Or.inl ⟨by rfl, ?_⟩) hHeld ?_
            rotate_left
            · intro w hSw; (try dsimp only at hSw); go_simp
              all_goals (with_reducible rfl)
            (try simp only [Act.put, List.setIfInBounds_toArray, List.set_cons_zero, List.set_cons_succ])
            refine wpAnyH_ready (rs := [5]) (by kernel_rfl) (by simp) ?_
            refine AllReadyH.cons rfl (fun K hK => ?_) AllReadyH.nil
            go_simp
            go_wp2_with (first | (go_at_call 10; refine hcc.mono ?_; rintro _ w6 ⟨rfl, hb6⟩))
            have e0 := (hb6.cell (p := ⟨yb, yo + k * 3, none⟩) (cell_lt d0)).trans d0
            have e1 := (hb6.cell (p := ⟨yb, yo + k * 3 + 1, none⟩) (cell_lt d1)).trans d1
            have e2 := (hb6.cell (p := ⟨yb, yo + k * 3 + 2, none⟩) (cell_lt d2)).trans d2
            
            refine hK.out _ _ (⟨e0, e1, e2⟩) (fun hHeld => ?_)
            clear hK K
            (try simp only [Act.put, List.setIfInBounds_toArray, List.set_cons_zero, List.set_cons_succ])
            refine wpAnyH_ready (rs := [11]) (by kernel_rfl) (by simp) ?_
            refine AllReadyH.cons rfl (fun K hK => ?_) AllReadyH.nil
            go_simp
            go_wp2_with (first | (go_at_call 11; refine (rStop_nil _).mono ?_; rintro _ w7 ⟨rfl, hb7⟩))
            have k0 := (hb7.cell (p := ⟨yb, yo + k * 3, none⟩) (cell_lt e0)).trans e0
            have k1 := (hb7.cell (p := ⟨yb, yo + k * 3 + 1, none⟩) (cell_lt e1)).trans e1
            have k2 := (hb7.cell (p := ⟨yb, yo + k * 3 + 2, none⟩) (cell_lt e2)).trans e2
            
            refine hK.out _ _ (⟨k0, k1, k2⟩) (fun hHeld => ?_)
            clear hK K
            (try simp only [Act.put, List.setIfInBounds_toArray, List.set_cons_zero, List.set_cons_succ])
            refine wpAnyH_take (i := 12) (v := ?_) rfl (by kernel_rfl) (by kernel_rfl) (by kernel_rfl) (fun _ _ _ h => h) (Or.inl ⟨by rfl, ?_⟩) hHeld ?_
            rotate_left
            · intro w hSw; (try dsimp only at hSw); go_simp
              all_goals (with_reducible rfl)
            (try simp only [Act.put, List.setIfInBounds_toArray, List.set_cons_zero, List.set_cons_succ])
            refine wpAnyH_take (i := 13) (v := ?_) rfl (by kernel_rfl) (by kernel_rfl) (by kernel_rfl) (fun _ _ _ h => h) (Or.inl ⟨by rfl, ?_⟩) hHeld ?_
            rotate_left
            · intro w hSw; (try dsimp only at hSw); go_simp
              all_goals (with_reducible rfl)
            (try simp only [Act.put, List.setIfInBounds_toArray, List.set_cons_zero, List.set_cons_succ])
            refine wpAnyH_done (by kernel_rfl) ?_ _
            have hbr7 : Below wr.heap.size wr w7 := (⟨hb6.os, hb6.tape, hb6.output, hb6.size, hb6.block⟩ : Below wr.heap.size wr w6).trans (hb7.mono hb6.size)
            clear hHeld hcc e0 e1 e2 k0 k1 k2
            have hT := tells_any (N := 0) (PairO.ofNil (fun _ => False) (fun _ => False) w7) (fun s e => by cases e) (by omega)
            go_wp2_with (first | (go_at_call 12; refine hT.mono ?_; rintro _ w8 ⟨rfl, hb8⟩))
            go_roundw
            case rel => exact ⟨k + 1, by omega, by go_num, hb.trans ((hbr7.trans (hb8.mono hbr7.size)).mono hb.size)⟩
            case measure => simp [RowKit.intOf]; omega
          · obtain rfl : k = ys.length := by omega
            have j1 : ¬ (ys.length : Int) < (ys.length : Int) := by omega
            go_wp2_with (first | (go_at_call 16; refine (cK _).mono ?_; rintro _ w9 ⟨rfl, hb9⟩))
            go_ret
            exact ⟨rfl, hb0r.trans (hb9.mono hb0r.size)⟩
  | some s0 =>
    obtain ⟨p, r, rfl, rfl, ht⟩ := hP
    have hP := PairO.ofTwo ht
    clear ht
    have hcap0 : 0 ≤ cap := hcap (by simp)
    go_wp2_with (go_at_call 8; refine (cN _ _).mono ?_; rintro _ wn ⟨rfl, rfl⟩)
    go_loopw [11] (fun i wr => ∃ k : Nat, k ≤ xs.length ∧ i = .int .i64 k ∧ Below w1.heap.size w1 wr ∧ ∃ F G, PairO F G wr (some ⟨p, 0, none⟩) (stepsO (some s0) xs k) (some ⟨r, 0, none⟩) (stepsO (some s0) xs k) ∧ (∀ b, F b → w1.heap.size ≤ b ∧ b < wr.heap.size) ∧ (∀ b, G b → w1.heap.size ≤ b ∧ b < wr.heap.size)) (fun i _ => xs.length - (RowKit.intOf i).toNat)
    case atStart => exact ⟨0, by omega, rfl, hb13, F, G, hP, hF, hG⟩
    case round =>
      clear hP hF hG F G
      obtain ⟨k, hk, rfl, hb, F, G, hP, hF, hG⟩ := hrel
      obtain ⟨hok, hwh, hwr, hne⟩ := stepsO_ok hst.1 hst.2.1 hst.2.2 xs k hk
      have hb0r : Below w.heap.size w wr := hb1.trans (hb.mono hb1.size)
      by_cases hlt : k < xs.length
      · obtain ⟨x, hx⟩ : ∃ x, xs[k]? = some x := ⟨xs[k]'hlt, by simp⟩
        obtain ⟨xb, xo, rfl, hcs⟩ := hxs (fun e => by
          have h0 : xs.length = 0 := by rw [e]; rfl
          omega)
        obtain ⟨da, ka, dc, kc, hcell0, hnil, hrow0, _⟩ := hcs k x hx
        have hcell : ∀ (j : Nat) u, (encA x da dc ka kc)[j]? = some u → wr.cell? ⟨xb, xo + k * 10 + j, none⟩ = some u := fun j u hu => (hb0r.cell (p := ⟨xb, xo + k * 10 + j, none⟩) (cell_lt (hcell0 j u hu))).trans (hcell0 j u hu)
        have h0 : wr.cell? ⟨xb, xo + k * 10, none⟩ = some (.int .i64 x.kind) := by have := hcell 0 (.int .i64 x.kind) rfl; simpa using this
        have h1 := hcell 1 (.int .i64 x.who) rfl
        have h2 := hcell 2 (.string ⟨x.name.toArray⟩) rfl
        have h3 := hcell 3 (.string ⟨x.dst.toArray⟩) rfl
        have h4 := hcell 4 (.int .i64 x.at_) rfl
        have h5 := hcell 5 (.int .i64 x.n) rfl
        have h6 := hcell 6 (.slice da x.data.length dc) rfl
        have h7 := hcell 7 (.int .i64 x.sn) rfl
        have h8 := hcell 8 (.slice ka x.keep.length kc) rfl
        have h9 := hcell 9 (.int .i64 x.st) rfl
        have hdl := bytes_lt hrow0
        have hzr := hb.size
        have hdo := asks_law hP (lo := w1.heap.size) (ka := ka) (kc := kc) (hxo x (List.mem_of_getElem? hx)) (hrow0.below hb0r) hnil (fun y e hd => by have := hdl y e hd; omega) hok (by omega) hb.size hF hG
        unfold encA at hdo
        have HX := Lib.hid hx
        have HP := Lib.hid (And.intro hF (And.intro hG (And.intro hok (And.intro hwh hwr))))
        have HCS := Lib.hid hcs
        have j0 : (0 : Int) ≤ (k : Int) := by omega
        have j1 : (k : Int) < (xs.length : Int) := by omega
        clear hx hcs hP hF hG hok hwh hwr hne hcell hcell0 hrow0 hnil hdl
        go_wp2_with (go_at_call 9; refine hdo.mono ?_; rintro _ w4 ⟨rfl, hc4, hb4, F', G', hP', hF', hG'⟩)
        go_roundw
        case rel => exact ⟨k + 1, by omega, by go_num, hb.trans hb4, F', G', by rw [stepsO_succ HX.out]; exact hP', fun b hb => ⟨(hF' b hb).1.elim (fun h => (HP.out.1 b h).1) (fun h => by have := HP.out.2.2; omega), (hF' b hb).2⟩, fun b hb => ⟨(hG' b hb).1.elim (fun h => (HP.out.2.1 b h).1) (fun h => by omega), (hG' b hb).2⟩⟩
        case measure => simp [RowKit.intOf]; omega
      · obtain rfl : k = xs.length := by omega
        have j1 : ¬ (xs.length : Int) < (xs.length : Int) := by omega
        rename World => w5
        have hb5 := hb
        have hb05 := hb0r
        clear hb hb0r
        obtain ⟨o, ho⟩ : ∃ o, stepsO (some s0) xs xs.length = o := ⟨_, rfl⟩
        rw [ho] at hP hok hwh hwr hne
        clear ho
        cases o with
        | none => exact absurd (hne.1 rfl) (by simp)
        | some s =>
        have hokS := hok s rfl
        have hwhS := hwh s rfl
        obtain ⟨hwl, hrm⟩ := hwr s rfl
        have hcapE : ((s.room : Nat) : Int) = cap := by rw [hrm]; omega
        have hlo5 := hb5.size
        have c05 := (hb5.cell (p := ⟨w.heap.size, 0, none⟩) hz).trans ((by rw [← hw1]; exact cell_new w _ _ 0 _ rfl : w1.cell? ⟨w.heap.size, 0, none⟩ = some (.int .i64 cap)))
        have hzw : w.heap.size < w5.heap.size := by omega
        clear hwr hwh hne hok hrm c03
        go_wp2
        go_loopw [12] (fun i wr => ∃ k : Nat, k ≤ ys.length ∧ i = .int .i64 k ∧ Below w5.heap.size w5 wr) (fun i _ => ys.length - (RowKit.intOf i).toNat)
        case atStart => exact ⟨0, by omega, rfl, Below.refl _ _⟩
        case round =>
          obtain ⟨k, hk, rfl, hb⟩ := hrel
          have hb0r : Below w.heap.size w wr := hb05.trans (hb.mono hb05.size)
          by_cases hlt : k < ys.length
          · obtain ⟨y, hy⟩ : ∃ y, ys[k]? = some y := ⟨ys[k]'hlt, by simp⟩
            obtain ⟨yb, yo, rfl, hcs⟩ := (hys.below hb0r) (fun e => by
              have h0 : ys.length = 0 := by rw [e]; rfl
              omega)
            obtain ⟨ka, kc, d0, d1, d2, hkr⟩ := hcs k y hy
            obtain ⟨hkl, hto⟩ := hyo y (List.mem_of_getElem? hy)
            have HCS := Lib.hid hcs
            have HY := Lib.hid hy
            clear hcs hy
            have c0r := (hb.cell (p := ⟨w.heap.size, 0, none⟩) hzw).trans c05
            have hPr := (hP.below hb).kept (O := fun _ => False) ((Chg.refl (fun _ => False) wr).drew) (fun _ _ h => h) (fun _ _ h => h)
            have hkrd : RowAt wr.drew ka (y.keep.map Value.bool) := fun h => hkr h
            have hOK : OkO (some s) (L.length + xs.length) := fun s' e => by cases e; exact hokS
            have hzr := hb.size
            have j0 : (0 : Int) ≤ (k : Int) := by omega
            have j1 : (k : Int) < (ys.length : Int) := by omega
            have hcc := hPr.stop1 (names := y.names) (torn := y.torn) hto (kc := kc) hkrd hkl hOK (by omega)
            have hce := fun (W : World) (hW : Below wr.drew.heap.size wr.drew W) => (hPr.below hW).stop2 (names := y.names) (torn := y.torn) (kc := kc) (hkrd.below hW) hkl hOK (by omega)
            go_upto_region 13 with fail
            refine wp_region_held_drew (S := fun w' => w'.cell? ⟨yb, yo + k * 3, none⟩ = some (.int .i64 y.names) ∧ w'.cell? ⟨yb, yo + k * 3 + 1, none⟩ = some (.slice ka y.keep.length kc) ∧ w'.cell? ⟨yb, yo + k * 3 + 2, none⟩ = some (.int .i64 y.torn)) (by kernel_rfl) (⟨d0, d1, d2⟩) (fun hHeld => ?_)
            refine wpAnyH_take (i := 0) (v := ?_) rfl (by kernel_rfl) (by kernel_rfl) (by kernel_rfl) (fun _ _ _ h => h) (Or.inl ⟨by rfl, ?_⟩) hHeld ?_
            rotate_left
            · intro w hSw; (try dsimp only at hSw); go_simp
              all_goals (with_reducible rfl)
            (try simp only [Act.put, List.setIfInBounds_toArray, List.set_cons_zero, List.set_cons_succ])
            refine wpAnyH_take (i := 1) (v := ?_) rfl (by kernel_rfl) (by kernel_rfl) (by kernel_rfl) (fun _ _ _ h => h) (Or.inl ⟨by rfl, ?_⟩) hHeld ?_
            rotate_left
            · intro w hSw; (try dsimp only at hSw); go_simp
              all_goals (with_reducible rfl)
            (try simp only [Act.put, List.setIfInBounds_toArray, List.set_cons_zero, List.set_cons_succ])
            refine wpAnyH_take (i := 2) (v := ?_) rfl (by kernel_rfl) (by kernel_rfl) (by kernel_rfl) (fun _ _ _ h => h) (Or.inl ⟨by rfl, ?_⟩) hHeld ?_
            rotate_left
            · intro w hSw; (try dsimp only at hSw); go_simp
              all_goals (with_reducible rfl)
            (try simp only [Act.put, List.setIfInBounds_toArray, List.set_cons_zero, List.set_cons_succ])
            refine wpAnyH_take (i := 3) (v := ?_) rfl (by kernel_rfl) (by kernel_rfl) (by kernel_rfl) (fun _ _ _ h => h) (Or.inl ⟨by rfl, ?_⟩) hHeld ?_
            rotate_left
            · intro w hSw; (try dsimp only at hSw); go_simp
              all_goals (with_reducible rfl)
            (try simp only [Act.put, List.setIfInBounds_toArray, List.set_cons_zero, List.set_cons_succ])
            refine wpAnyH_take (i := 4) (v := ?_) rfl (by kernel_rfl) (by kernel_rfl) (by kernel_rfl) (fun _ _ _ h => h) (Or.inl ⟨by rfl, ?_⟩) hHeld ?_
            rotate_left
            · intro w hSw; (try dsimp only at hSw); go_simp
              all_goals (with_reducible rfl)
            (try simp only [Act.put, List.setIfInBounds_toArray, List.set_cons_zero, List.set_cons_succ])
            refine wpAnyH_take (i := 6) (v := ?_) rfl (by kernel_rfl) (by kernel_rfl) (by kernel_rfl) (fun _ _ _ h => h) (Or.inl ⟨by rfl, ?_⟩) hHeld ?_
            rotate_left
            · intro w hSw; (try dsimp only at hSw); go_simp
              all_goals (with_reducible rfl)
            (try simp only [Act.put, List.setIfInBounds_toArray, List.set_cons_zero, List.set_cons_succ])
            refine wpAnyH_take (i := 7) (v := ?_) rfl (by kernel_rfl) (by kernel_rfl) (by kernel_rfl) (fun _ _ _ h => h) (Or.inl ⟨by rfl, ?_⟩) hHeld ?_
            rotate_left
            · intro w hSw; (try dsimp only at hSw); go_simp
              all_goals (with_reducible rfl)
            (try simp only [Act.put, List.setIfInBounds_toArray, List.set_cons_zero, List.set_cons_succ])
            refine wpAnyH_take (i := 8) (v := ?_) rfl (by kernel_rfl) (by kernel_rfl) (by kernel_rfl) (fun _ _ _ h => h) (Or.inl ⟨by rfl, ?_⟩) hHeld ?_
            rotate_left
            · intro w hSw; (try dsimp only at hSw); go_simp
              all_goals (with_reducible rfl)
            (try simp only [Act.put, List.setIfInBounds_toArray, List.set_cons_zero, List.set_cons_succ])
            refine wpAnyH_take (i := 9) (v := ?_) rfl (by kernel_rfl) (by kernel_rfl) (by kernel_rfl) (fun _ _ _ h => h) (Or.inl ⟨by rfl, ?_⟩) hHeld ?_
            rotate_left
            · intro w hSw; (try dsimp only at hSw); go_simp
              all_goals (with_reducible rfl)
            (try simp only [Act.put, List.setIfInBounds_toArray, List.set_cons_zero, List.set_cons_succ])
            refine wpAnyH_take (i := 10) (v := ?_) rfl (by kernel_rfl) (by kernel_rfl) (by kernel_rfl) (fun _ _ _ h => h) (Or.inl ⟨by rfl, ?_⟩) hHeld ?_
            rotate_left
            · intro w hSw; (try dsimp only at hSw); go_simp
              all_goals (with_reducible rfl)
            (try simp only [Act.put, List.setIfInBounds_toArray, List.set_cons_zero, List.set_cons_succ])
            refine wpAnyH_ready (rs := [5]) (by kernel_rfl) (by simp) ?_
            refine AllReadyH.cons rfl (fun K hK => ?_) AllReadyH.nil
            go_simp
            go_wp2_with (first | (go_at_call 10; refine hcc.mono ?_; rintro _ w6 ⟨q3, rfl, hh3, hb6⟩))
            have e0 := (hb6.cell (p := ⟨yb, yo + k * 3, none⟩) (cell_lt d0)).trans d0
            have e1 := (hb6.cell (p := ⟨yb, yo + k * 3 + 1, none⟩) (cell_lt d1)).trans d1
            have e2 := (hb6.cell (p := ⟨yb, yo + k * 3 + 2, none⟩) (cell_lt d2)).trans d2
            have hcf := hce w6 hb6
            
            refine hK.out _ _ (⟨e0, e1, e2⟩) (fun hHeld => ?_)
            clear hK K
            (try simp only [Act.put, List.setIfInBounds_toArray, List.set_cons_zero, List.set_cons_succ])
            refine wpAnyH_ready (rs := [11]) (by kernel_rfl) (by simp) ?_
            refine AllReadyH.cons rfl (fun K hK => ?_) AllReadyH.nil
            go_simp
            go_wp2_with (first | (go_at_call 11; refine hcf.mono ?_; rintro _ w7 ⟨q4, rfl, hh4, hb7⟩))
            have k0 := (hb7.cell (p := ⟨yb, yo + k * 3, none⟩) (cell_lt e0)).trans e0
            have k1 := (hb7.cell (p := ⟨yb, yo + k * 3 + 1, none⟩) (cell_lt e1)).trans e1
            have k2 := (hb7.cell (p := ⟨yb, yo + k * 3 + 2, none⟩) (cell_lt e2)).trans e2
            
            refine hK.out _ _ (⟨k0, k1, k2⟩) (fun hHeld => ?_)
            clear hK K
            (try simp only [Act.put, List.setIfInBounds_toArray, List.set_cons_zero, List.set_cons_succ])
            refine wpAnyH_take (i := 12) (v := ?_) rfl (by kernel_rfl) (by kernel_rfl) (by kernel_rfl) (fun _ _ _ h => h) (Or.inl ⟨by rfl, ?_⟩) hHeld ?_
            rotate_left
            · intro w hSw; (try dsimp only at hSw); go_simp
              all_goals (with_reducible rfl)
            (try simp only [Act.put, List.setIfInBounds_toArray, List.set_cons_zero, List.set_cons_succ])
            refine wpAnyH_take (i := 13) (v := ?_) rfl (by kernel_rfl) (by kernel_rfl) (by kernel_rfl) (fun _ _ _ h => h) (Or.inl ⟨by rfl, ?_⟩) hHeld ?_
            rotate_left
            · intro w hSw; (try dsimp only at hSw); go_simp
              all_goals (with_reducible rfl)
            (try simp only [Act.put, List.setIfInBounds_toArray, List.set_cons_zero, List.set_cons_succ])
            refine wpAnyH_done (by kernel_rfl) ?_ _
            have hbr6 : Below wr.heap.size wr w6 := ⟨hb6.os, hb6.tape, hb6.output, hb6.size, hb6.block⟩
            have hbr7 : Below wr.heap.size wr w7 := hbr6.trans (hb7.mono hb6.size)
            obtain ⟨F3, G3, hP3, hF3, hG3⟩ := PairO.join hh3 hb7 hh4 (fun b hb => (hPr.lt (by simp)).2.1 b hb) hb6.size
            obtain ⟨s3, hs3⟩ : ∃ s3, s.stop y.names y.keep y.torn = s3 := ⟨_, rfl⟩
            have hO3 : stopO y.names y.keep y.torn (some s) = some s3 := by rw [← hs3]; rfl
            rw [hO3] at hP3
            obtain ⟨p3, r3, rfl, rfl, ht3⟩ := hP3
            have hP3 := PairO.ofTwo ht3
            have hOK3 : OkO (some s3) (L.length + xs.length + (L.length + xs.length)) := by rw [← hO3]; exact stopO_ok hOK
            have hroom3 : (s3.room : Int) = cap := by rw [← hs3, stop_room]; exact hcapE
            have hag3 : (s3.stop y.names y.keep y.torn).all = s3.all := by rw [← hs3]; exact stop_again _ _ _ _ _ _ _
            have hagr : ((s3.stop y.names y.keep y.torn).room : Int) = cap := hroom3
            have c07 := (hbr7.cell (p := ⟨w.heap.size, 0, none⟩) (by show w.heap.size < _; omega)).trans c0r
            have hkr7 := hkr.below hbr7
            have hz7 := hbr7.size
            have ff : (cap != cap) = false := by simp
            clear hHeld hcc hce hcf e0 e1 e2 hh3 hh4 ht3 hPr hO3 hs3 d0 d1 d2 c0r
            have hT := tells_any hP3 hOK3 (by omega)
            go_upto_region 18 with (first
              | (go_at_call 12; refine hT.mono ?_; rintro _ w8 ⟨rfl, hb8⟩
                 have k08 := (hb8.cell (p := ⟨yb, yo + k * 3, none⟩) (cell_lt k0)).trans k0
                 have k18 := (hb8.cell (p := ⟨yb, yo + k * 3 + 1, none⟩) (cell_lt k1)).trans k1
                 have k28 := (hb8.cell (p := ⟨yb, yo + k * 3 + 2, none⟩) (cell_lt k2)).trans k2
                 have hst8 := (hP3.below hb8).stop1 (names := y.names) (torn := y.torn) hto (kc := kc) (hkr7.below hb8) hkl hOK3 (by omega))
              | (go_at_call 10; refine hst8.mono ?_; rintro _ w9 ⟨q5, rfl, hh5, hb9⟩))
            obtain ⟨p5, rfl, hH5⟩ := HalfO.files hh5 ((stopO_ok hOK3) _ rfl) (by omega)
            have hOK5 : (s3.stop y.names y.keep y.torn).Ok (L.length + xs.length + (L.length + xs.length) + (L.length + xs.length + (L.length + xs.length))) := (hOK3 s3 rfl).stop _ _ _
            obtain ⟨s5, hs5⟩ : ∃ s5, s3.stop y.names y.keep y.torn = s5 := ⟨_, rfl⟩
            dsimp only at hH5
            rw [hs5] at hH5 hOK5 hag3 hagr
            have hz79 : w7.heap.size ≤ w9.heap.size := Nat.le_trans hb8.size hb9.size
            have hb79 : Below w7.heap.size w7 w9 := hb8.trans (hb9.mono hb8.size)
            have c09 := (hb79.cell (p := ⟨w.heap.size, 0, none⟩) (cell_lt c07)).trans c07
            have hf5 := (hH5.below (below_drew1 w9)).files hOK5 (by omega)
            have hf3 := fun (W : World) (hW : Below w9.drew.heap.size w9.drew W) => (((hP3.below hb79).below (below_drew1 w9)).below hW).files1 hOK3 (by omega)
            have hl5 : s5.all.length ≤ maxLen := by have := hOK5.manyNames; simp only [DSt.all, List.length_map]; omega
            have hLL : (s5.all == s3.all) = true := by rw [hag3]; simp
            clear hs5 hag3 hT hst8 k0 k1 k2 k08 k18 k28 hh5
            refine wp_region_held_drew (S := fun w' => w'.cell? ⟨w.heap.size, 0, none⟩ = some (.int .i64 cap)) (by kernel_rfl) (c09) (fun hHeld => ?_)
            refine wpAnyH_take (i := 0) (v := ?_) rfl (by kernel_rfl) (by kernel_rfl) (by kernel_rfl) (fun _ _ _ h => h) (Or.inl ⟨by rfl, ?_⟩) hHeld ?_
            rotate_left
            · intro w hSw; (try dsimp only at hSw); go_simp
              all_goals (with_reducible rfl)
            (try simp only [Act.put, List.setIfInBounds_toArray, List.set_cons_zero, List.set_cons_succ])
            refine wpAnyH_take (i := 1) (v := ?_) rfl (by kernel_rfl) (by kernel_rfl) (by kernel_rfl) (fun _ _ _ h => h) (Or.inl ⟨by rfl, ?_⟩) hHeld ?_
            rotate_left
            · intro w hSw; (try dsimp only at hSw); go_simp
              all_goals (with_reducible rfl)
            (try simp only [Act.put, List.setIfInBounds_toArray, List.set_cons_zero, List.set_cons_succ])
            refine wpAnyH_take (i := 2) (v := ?_) rfl (by kernel_rfl) (by kernel_rfl) (by kernel_rfl) (fun _ _ _ h => h) (Or.inl ⟨by rfl, ?_⟩) hHeld ?_
            rotate_left
            · intro w hSw; (try dsimp only at hSw); go_simp
              all_goals (with_reducible rfl)
            (try simp only [Act.put, List.setIfInBounds_toArray, List.set_cons_zero, List.set_cons_succ])
            refine wpAnyH_take (i := 3) (v := ?_) rfl (by kernel_rfl) (by kernel_rfl) (by kernel_rfl) (fun _ _ _ h => h) (Or.inl ⟨by rfl, ?_⟩) hHeld ?_
            rotate_left
            · intro w hSw; (try dsimp only at hSw); go_simp
              all_goals (with_reducible rfl)
            (try simp only [Act.put, List.setIfInBounds_toArray, List.set_cons_zero, List.set_cons_succ])
            refine wpAnyH_take (i := 5) (v := ?_) rfl (by kernel_rfl) (by kernel_rfl) (by kernel_rfl) (fun _ _ _ h => h) (Or.inl ⟨by rfl, ?_⟩) hHeld ?_
            rotate_left
            · intro w hSw; (try dsimp only at hSw); go_simp
              all_goals (with_reducible rfl)
            (try simp only [Act.put, List.setIfInBounds_toArray, List.set_cons_zero, List.set_cons_succ])
            refine wpAnyH_ready (rs := [4]) (by kernel_rfl) (by simp) ?_
            refine AllReadyH.cons rfl (fun K hK => ?_) AllReadyH.nil
            go_simp
            go_wp2_with (first | (go_at_call 14; refine hf5.mono ?_; rintro _ w10 ⟨va, ca, rfl, hfa, hb10⟩))
            have c010 := (hb10.cell (p := ⟨w.heap.size, 0, none⟩) (cell_lt c09)).trans c09
            have hf6 := hf3 w10 hb10
            
            refine hK.out _ _ (c010) (fun hHeld => ?_)
            clear hK K
            (try simp only [Act.put, List.setIfInBounds_toArray, List.set_cons_zero, List.set_cons_succ])
            refine wpAnyH_ready (rs := [6]) (by kernel_rfl) (by simp) ?_
            refine AllReadyH.cons rfl (fun K hK => ?_) AllReadyH.nil
            go_simp
            go_wp2_with (first | (go_at_call 14; refine hf6.mono ?_; rintro _ w11 ⟨vb, cb, rfl, hfb, hb11⟩; obtain ⟨a1, k1, rfl, hr1⟩ := FilesRd.of_at (hfa.kept (Chg.of_below (O := fun _ => False) hb11) (fun _ _ _ h => h)); obtain ⟨a2, k2, rfl, hr2⟩ := FilesRd.of_at hfb))
            have c011 := (hb11.cell (p := ⟨w.heap.size, 0, none⟩) (cell_lt c010)).trans c010
            have hS := SameFiles_any (c := k1) (d := k2) hr1 hr2 hl5
            unfold allO at hS
            dsimp only at hS
            rw [hLL] at hS
            
            refine hK.out _ _ (c011) (fun hHeld => ?_)
            clear hK K
            (try simp only [Act.put, List.setIfInBounds_toArray, List.set_cons_zero, List.set_cons_succ])
            refine wpAnyH_ready (rs := [7]) (by kernel_rfl) (by simp) ?_
            refine AllReadyH.cons rfl (fun K hK => ?_) AllReadyH.nil
            go_simp
            go_wp2_with (first | (go_at_call 13; refine hS.mono ?_; rintro _ w12 ⟨rfl, hb12⟩))
            have c012 := (hb12.cell (p := ⟨w.heap.size, 0, none⟩) (cell_lt c011)).trans c011
            have hb912 : Below w9.heap.size w9 w12 := (below_drew1 w9).trans (hb10.trans ((hb11.trans (hb12.mono hb11.size)).mono hb10.size))
            have hcp := (hH5.below hb912).capacity
            rw [hagr] at hcp
            
            refine hK.out _ _ (c012) (fun hHeld => ?_)
            clear hK K
            (try simp only [Act.put, List.setIfInBounds_toArray, List.set_cons_zero, List.set_cons_succ])
            refine wpAnyH_take (i := 8) (v := ?_) rfl (by kernel_rfl) (by kernel_rfl) (by kernel_rfl) (fun _ _ _ h => h) (Or.inl ⟨by rfl, ?_⟩) hHeld ?_
            rotate_left
            · intro w hSw; (try dsimp only at hSw); go_simp
              all_goals (with_reducible rfl)
            (try simp only [Act.put, List.setIfInBounds_toArray, List.set_cons_zero, List.set_cons_succ])
            refine wpAnyH_take (i := 9) (v := ?_) rfl (by kernel_rfl) (by kernel_rfl) (by kernel_rfl) (fun _ _ _ h => h) (Or.inl ⟨by rfl, ?_⟩) hHeld ?_
            rotate_left
            · intro w hSw; (try dsimp only at hSw); go_simp
              all_goals (with_reducible rfl)
            (try simp only [Act.put, List.setIfInBounds_toArray, List.set_cons_zero, List.set_cons_succ])
            refine wpAnyH_take (i := 10) (v := ?_) rfl (by kernel_rfl) (by kernel_rfl) (by kernel_rfl) (fun _ _ _ h => h) (Or.inl ⟨by rfl, ?_⟩) hHeld ?_
            rotate_left
            · intro w hSw; (try dsimp only at hSw); go_simp
              all_goals (with_reducible rfl)
            (try simp only [Act.put, List.setIfInBounds_toArray, List.set_cons_zero, List.set_cons_succ])
            refine wpAnyH_take (i := 11) (v := ?_) rfl (by kernel_rfl) (by kernel_rfl) (by kernel_rfl) (fun _ _ _ h => h) (Or.inl ⟨by rfl, ?_⟩) hHeld ?_
            rotate_left
            · intro w hSw; (try dsimp only at hSw); go_simp
              all_goals (with_reducible rfl)
            (try simp only [Act.put, List.setIfInBounds_toArray, List.set_cons_zero, List.set_cons_succ])
            refine wpAnyH_take (i := 13) (v := ?_) rfl (by kernel_rfl) (by kernel_rfl) (by kernel_rfl) (fun _ _ _ h => h) (Or.inl ⟨by rfl, ?_⟩) hHeld ?_
            rotate_left
            · intro w hSw; (try dsimp only at hSw); go_simp
              all_goals (with_reducible rfl)
            (try simp only [Act.put, List.setIfInBounds_toArray, List.set_cons_zero, List.set_cons_succ])
            refine wpAnyH_take (i := 14) (v := ?_) rfl (by kernel_rfl) (by kernel_rfl) (by kernel_rfl) (fun _ _ _ h => h) (Or.inl ⟨by rfl, ?_⟩) hHeld ?_
            rotate_left
            · intro w hSw; (try dsimp only at hSw); go_simp
              all_goals (with_reducible rfl)
            (try simp only [Act.put, List.setIfInBounds_toArray, List.set_cons_zero, List.set_cons_succ])
            refine wpAnyH_ready (rs := [12]) (by kernel_rfl) (by simp) ?_
            refine AllReadyH.cons rfl (fun K hK => ?_) AllReadyH.nil
            go_simp
            go_wp2_with (first | (go_at_call 15; refine hcp.mono ?_; rintro _ w13 ⟨rfl, rfl⟩))
            
            refine hK.out _ _ (c012) (fun hHeld => ?_)
            clear hK K
            (try simp only [Act.put, List.setIfInBounds_toArray, List.set_cons_zero, List.set_cons_succ])
            refine wpAnyH_take (i := 15) (v := ?_) rfl (by kernel_rfl) (by kernel_rfl) (by kernel_rfl) (fun _ _ _ h => h) (Or.inl ⟨by rfl, ?_⟩) hHeld ?_
            rotate_left
            · intro w hSw; (try dsimp only at hSw); go_simp
              all_goals (with_reducible rfl)
            (try simp only [Act.put, List.setIfInBounds_toArray, List.set_cons_zero, List.set_cons_succ])
            refine wpAnyH_take (i := 16) (v := ?_) rfl (by kernel_rfl) (by kernel_rfl) (by kernel_rfl) (fun _ _ _ h => h) (Or.inl ⟨by rfl, ?_⟩) hHeld ?_
            rotate_left
            · intro w hSw; (try dsimp only at hSw); go_simp
              all_goals (with_reducible rfl)
            (try simp only [Act.put, List.setIfInBounds_toArray, List.set_cons_zero, List.set_cons_succ])
            refine wpAnyH_done (by kernel_rfl) ?_ _
            clear hHeld hcp hS hf5 hf6 hf3
            have hbr12 : Below wr.heap.size wr w12 := hbr7.trans ((hb79.trans (hb912.mono hb79.size)).mono hz7)
            go_wp2
            go_roundw
            case rel => exact ⟨k + 1, by omega, by go_num, hb.trans (hbr12.mono hb.size)⟩
            case measure => simp [RowKit.intOf]; omega
          · obtain rfl : k = ys.length := by omega
            have j1 : ¬ (ys.length : Int) < (ys.length : Int) := by omega
            have hPw := hP.below hb
            have hOK : OkO (some s) (L.length + xs.length) := fun s' e => by cases e; exact hokS
            have hmw := hokS.manyWrites
            have hms := hokS.manySteps
            have hpe : Calls Tryz.prog 17 #[.pointer (some ⟨p, 0, none⟩)] wr fun e w' => e = .returned (.tuple #[.int .i64 (s.steps.length : Int), .int .i64 (s.writes.length : Int)]) ∧ Below wr.heap.size wr w' := hPw.pending1
            have g1 : decide ((s.steps.length : Int) < 0) = false := by simp
            have g2 : decide ((s.writes.length : Int) < 0) = false := by simp
            have g3 : decide ((xs.length : Int) < (s.writes.length : Int)) = false := by simp; omega
            obtain ⟨i0, hi, hz0, hz1', hz2⟩ := info_parts Tryz.info4
            have hmk := fun (W : World) => run_makeSlice_full (P := Tryz.prog) (w := W) W.heap.size 37 4 i0 (.bool false) 1 Tryz.underlying37 hi hz0 hz1' .i64 .i64 s.writes.length (by omega) (by rw [hz2]; omega) (by omega) (Nat.le_refl _)
            go_upto_region 25 with (first | (go_at_call 17; refine hpe.mono ?_; rintro _ w14 ⟨rfl, hb14⟩))
            obtain ⟨wm, hmr, hmo, hmg⟩ := hmk w14
            have hbm : Below w14.heap.size w14 wm := (Below.refl _ w14).grown hmg (Nat.le_refl _) (by intro k hk; cases hk)
            clear hmk hpe
            have HM := Lib.hid (And.intro hmo hbm)
            clear hmo
            go_wp2
            go_loopw [19] (fun i wr => ∃ k : Nat, k ≤ s.writes.length ∧ i = .int .i64 k ∧ Below w14.heap.size w14 wr ∧ ∃ us, wr.ownsRow w14.heap.size 4 1 (.slice (some ⟨w14.heap.size, 0, none⟩) s.writes.length s.writes.length) s.writes.length us ∧ us.take k = List.replicate k (.bool true)) (fun i _ => s.writes.length - (RowKit.intOf i).toNat)
            case atStart => exact ⟨0, by omega, rfl, hbm, _, HM.out.1, rfl⟩
            case round =>
              rename World => wk
              obtain ⟨k, hk, rfl, hbk, us, hus, hut⟩ := hrel
              by_cases hlt : k < s.writes.length
              · obtain ⟨⟨u0, q0⟩, f0, hset⟩ := ownsRow_setS hus (g := w14.heap.size) rfl k (by omega) (.bool true)
                have hul : us.length = s.writes.length := by have := hus.1; omega
                have hts : (us.set k (.bool true)).take (k + 1) = List.replicate (k + 1) (.bool true) := by
                  rw [List.take_succ_eq_append_getElem (by simp; omega), List.take_set_of_le (Nat.le_refl _), List.getElem_set_self, hut, List.replicate_succ']
                have hbs : Below w14.heap.size w14 (wk.setCell ⟨w14.heap.size, k, none⟩ (.bool true)) := ((Chg.of_below (O := fun b => w14.heap.size ≤ b) hbk).trans (Chg.set (O := fun b => w14.heap.size ≤ b) _ (Nat.le_refl _)) (fun _ h _ => h)).below (fun _ h => h)
                have HS := Lib.hid (And.intro hset (And.intro hts hbs))
                have j0 : (0 : Int) ≤ (k : Int) := by omega
                have j2 : (k : Int) < (s.writes.length : Int) := by omega
                clear hset hts hbs hus hut
                go_wp2
                go_roundw
                case rel => exact ⟨k + 1, by omega, by go_num, HS.out.2.2, _, HS.out.1, HS.out.2.1⟩
                case measure => simp [RowKit.intOf]; omega
              · obtain rfl : k = s.writes.length := by omega
                have j2 : ¬ ((s.writes.length : Nat) : Int) < (s.writes.length : Int) := by omega
                have hul : us.length = s.writes.length := by have := hus.1; omega
                rw [← hul, List.take_length, hul] at hut
                subst hut
                have hrk : RowAt wk (some ⟨w14.heap.size, 0, none⟩) ((List.replicate s.writes.length true).map Value.bool) := by
                  obtain ⟨a', c', e, hr, _⟩ := RowAt.of_owns (xs := (List.replicate s.writes.length true).map Value.bool) (by rw [List.map_replicate]; exact hus)
                  cases e; exact hr
                have hbwk : Below wr.heap.size wr wk := hb14.trans (hbk.mono hb14.size)
                have hPk := hPw.below hbwk
                have hsk := hPk.stop1 (names := (s.steps.length : Int)) (torn := -1) (by omega) (kc := s.writes.length) hrk (by simp; omega) hOK (by omega)
                rw [List.length_replicate] at hsk
                have hLL : ((s.stop (s.steps.length : Int) (List.replicate s.writes.length true) (-1)).all == s.all) = true := by rw [stop_keepsAll hwhS]; simp
                clear hus hrk
                go_upto_region 31 with (first | (go_at_call 10; refine hsk.mono ?_; rintro _ w15 ⟨q6, rfl, hh6, hb15⟩))
                obtain ⟨p6, rfl, hH6⟩ := HalfO.files hh6 ((stopO_ok hOK) _ rfl) (by omega)
                have hOK6 : (s.stop (s.steps.length : Int) (List.replicate s.writes.length true) (-1)).Ok (L.length + xs.length + (L.length + xs.length)) := hokS.stop _ _ _
                dsimp only at hH6
                generalize s.stop (s.steps.length : Int) (List.replicate s.writes.length true) (-1) = s6 at hH6 hOK6 hLL
                have hPk15 := hPk.below hb15
                have hf6 := hH6.files hOK6 (by omega)
                have hfd := fun W (hW : Below w15.heap.size w15 W) => (hPk15.below hW).files1 hOK (by omega)
                have hl6 : s6.all.length ≤ maxLen := by have := hOK6.manyNames; simp only [DSt.all, List.length_map]; omega
                have htl := fun W (hW : Below w15.heap.size w15 W) => tells_any (hPk15.below hW) hOK (by omega)
                clear hsk hh6
                go_wp2_with (first
                  | (go_at_call 14; with_reducible refine hf6.mono ?_; rintro _ w16 ⟨va, ca, rfl, hfa, hb16⟩)
                  | (go_at_call 14; refine (hfd w16 hb16).mono ?_; rintro _ w17 ⟨vb, cb, rfl, hfb, hb17⟩; have hb157 := hb16.trans (hb17.mono hb16.size); obtain ⟨a1, k1, rfl, hr1⟩ := FilesRd.of_at (hfa.kept (Chg.of_below (O := fun _ => False) hb17) (fun _ _ _ h => h)); obtain ⟨a2, k2, rfl, hr2⟩ := FilesRd.of_at hfb; have hS := SameFiles_any (c := k1) (d := k2) hr1 hr2 hl6; unfold allO at hS; dsimp only at hS; rw [hLL] at hS)
                  | (go_at_call 13; refine hS.mono ?_; rintro _ w18 ⟨rfl, hb18⟩; have hb158 := hb157.trans (hb18.mono hb157.size))
                  | (go_at_call 12; refine (htl w18 hb158).mono ?_; rintro _ w19 ⟨rfl, hb19⟩; have hb159 := hb158.trans (hb19.mono hb158.size))
                  | (go_at_call 16; refine (cK w19).mono ?_; rintro _ w20 ⟨rfl, hb20⟩))
                go_ret
                have hB15 : Below w.heap.size w w15 := hb0r.trans ((hbwk.trans (hb15.mono hbwk.size)).mono hb0r.size)
                exact ⟨rfl, hB15.trans ((hb159.trans (hb20.mono hb159.size)).mono hB15.size)⟩

end Go.Proofs.YtgckcnnnblggbaaGreat
