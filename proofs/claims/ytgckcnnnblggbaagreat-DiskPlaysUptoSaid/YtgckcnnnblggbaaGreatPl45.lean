/- Texts of this claim, one behind the other: ReF. -/
import Derived.Test.YtgckcnnnblggbaaGreatSt42
set_option linter.unusedSimpArgs false
set_option linter.unusedVariables false
/- tells: what both disks tell of themselves is alike. (printed by gen/tells.py) -/
namespace Go.Proofs.YtgckcnnnblggbaaGreat
open Go.RowKit Go.Maps

section
variable {F G : Nat → Prop} {w : World} {N : Nat}
set_option maxRecDepth 100000 in
set_option maxHeartbeats 8000000 in
theorem tells_nil (h : PairO F G w none none none none) (hN : N < maxList) :
    Calls Tryz.prog 12 #[.pointer none, .pointer none] w fun e w' => e = .returned (.bool true) ∧ Below w.heap.size w w' := by
  have hmx : maxList = 4194304 := rfl
  have hmax : maxLen = 9223372036854775807 := rfl
  have hok : ∀ s, (none : Option DSt) = some s → s.Ok N := fun s e => by cases e
  have hcn : Calls Tryz.prog 62 #[.pointer none] w fun e w' => ∃ v, e = .returned (.tuple #[v, .int .i64 1]) ∧ w'.ownsRow w.heap.size 9 1 v (namesO none).length ((namesO none).map sv) ∧ Below w.heap.size w w' := h.names1 hok hN
  have HOK := Lib.hid hok
  have HP := Lib.hid h
  have hnl : (namesO none).length ≤ maxLen := by simp [namesO]
  clear h hok
  go_enter Tryz.func12, Tryz.ntmps12
  go_upto_region 6 with (first | (go_at_call 62; refine hcn.mono ?_; rintro _ w1 ⟨vn, rfl, hn1, hb1⟩; have HP1 := Lib.hid (HP.out.below hb1); have hcp : Calls Tryz.prog 17 #[.pointer none] w1 fun e w' => e = .returned (.tuple #[.int .i64 0, .int .i64 0]) ∧ Below w1.heap.size w1 w' := HP1.out.pending1) | (go_at_call 17; refine hcp.mono ?_; rintro _ w2 ⟨rfl, hc3⟩))
  have hST : ∀ W, Below w1.heap.size w1 W → Calls Tryz.prog 64 #[.pointer none] W fun e w' => e = .returned (.int .i64 0) ∧ Below W.heap.size W w' := fun W hW => (HP1.out.below hW).steps1
  have hRO : ∀ W, Below w1.heap.size w1 W → Calls Tryz.prog 65 #[.pointer none] W fun e w' => e = .returned (.int .i64 0) ∧ Below W.heap.size W w' := fun W hW => (HP1.out.below hW).room1 HOK.out hN
  have hCA : ∀ W, Below w1.heap.size w1 W → Calls Tryz.prog 15 #[.pointer none] W fun e w' => e = .returned (.int .i64 0) ∧ Below W.heap.size W w' := fun W hW => (HP1.out.below hW).capacity1
  have hTX := fun W (hW : Below w1.heap.size w1 W) => (HP1.out.below hW).texts2 HOK.out hN
  have hF1 := fun W (hW : Below w.heap.size w W) => (HP.out.below hW).files1 HOK.out hN
  have hF2 := fun W (hW : Below w.heap.size w W) => (HP.out.below hW).files2 HOK.out hN
  have hby := allO_bytes (o := (none : Option DSt)) (N := N) HOK.out
  have hfl := allO_len (o := (none : Option DSt)) HOK.out hN
  generalize allO (none : Option DSt) = LF at hF1 hF2 hby hfl
  have hLL : (LF == LF) = true := by simp
  have hNN : (namesO (none : Option DSt) == namesO (none : Option DSt)) = true := by simp
  have f0 : ((0 : Int) != 0) = false := by simp
  have f1 : ((0 : Int) != 0) = false := by simp
  have f2 : ((0 : Int) != 0) = false := by simp
  have f3 : ((0 : Int) != 0) = false := by simp
  have f4 : ((0 : Int) != 0) = false := by simp
  obtain ⟨na, nc, rfl, _⟩ := ownsRow_cell hn1
  go_wp2_with (first
    | (go_at_call 8; refine (num_any _ _).mono ?_; rintro _ wn ⟨rfl, rfl⟩)
    | (go_at_call 64; refine (hST _ hc3).mono ?_; rintro _ w4 ⟨rfl, hb4⟩; have hc4 := hc3.trans (hb4.mono hc3.size))
    | (go_at_call 65; refine (hRO _ hc4).mono ?_; rintro _ w5 ⟨rfl, hb5⟩; have hc5 := hc4.trans (hb5.mono hc4.size))
    | (go_at_call 15; refine (hCA _ hc5).mono ?_; rintro _ w6 ⟨rfl, hb6⟩; have hc6 := hc5.trans (hb6.mono hc5.size))
    | (go_at_call 67; refine (hTX _ hc6).mono ?_; rintro _ w7 ⟨vt, rfl, ht7, hb7⟩; have hc7 := hc6.trans (hb7.mono hc6.size); obtain ⟨ta, tc, rfl, htr, _⟩ := RowAt.of_owns ht7; obtain ⟨na', nc', hne, hnr, _⟩ := RowAt.of_owns ((Chg.of_below (O := fun _ => False) hc7).row hn1 (fun _ _ h => h)); cases hne; have hS := SameTexts_any (c := nc) (d := tc) hnr htr hnl; rw [hNN] at hS)
    | (go_at_call 66; refine hS.mono ?_; rintro _ w8 ⟨rfl, hb8⟩; have hc8 := hc7.trans (hb8.mono hc7.size); have hbb8 := hb1.trans (hc8.mono hb1.size))
    | (go_at_call 14; refine (hF1 _ hbb8).mono ?_; rintro _ w9 ⟨vx, xs, rfl, hx9, hb9⟩; have hbb9 := hbb8.trans (hb9.mono hbb8.size))
    | (go_at_call 14; refine (hF1 _ hbb9).mono ?_; rintro _ w10 ⟨vy, ys, rfl, hy10, hb10⟩; have hbb10 := hbb9.trans (hb10.mono hbb9.size))
    | (go_at_call 18; refine (hF2 _ hbb10).mono ?_; rintro _ w11 ⟨ra, rc, rfl, hr11, hb11⟩; have hbb11 := hbb10.trans (hb11.mono hbb10.size); have hd11 := hb10.trans (hb11.mono hb10.size); have hx11 := hx9.kept (Chg.of_below (O := fun _ => False) hd11) (fun _ _ _ h => h); obtain ⟨xa, xc, rfl, hxr⟩ := FilesRd.of_at hx11; have hS2 := SameFiles_any (c := xc) (d := rc) hxr hr11 (by omega); rw [hLL] at hS2)
    | (go_at_call 13; refine hS2.mono ?_; rintro _ w12 ⟨rfl, hb12⟩; have hbb12 := hbb11.trans (hb12.mono hbb11.size); have hd12 := hd11.trans (hb12.mono hd11.size); have hsp := (hx9.spoilOk hby).kept (Chg.of_below (O := fun _ => False) hd12) (fun _ _ h => h))
    | (go_at_call 25; refine (spoil_any hsp (by omega)).mono ?_; rintro _ w13 ⟨rfl, hc13⟩))
  obtain ⟨ya, yc, rfl, _⟩ := FilesRd.of_at hy10
  have hxlt := fun b (hb : SpoilB _ _ _ b) => (hx9.spoilOk hby).lt hb
  have hcB : Chg (fun b => w.heap.size ≤ b) w w13 := ((Chg.of_below (O := fun b => w.heap.size ≤ b) hbb12)).trans hc13 (fun b hb _ => Nat.le_trans hbb8.size (hxlt b hb).1)
  have hbb13 : Below w.heap.size w w13 := hcB.below (fun _ h => h)
  have hcy : Chg (fun b => b < w9.heap.size) w10 w13 := (Chg.of_below (O := fun b => b < w9.heap.size) (hb11.trans (hb12.mono hb11.size))).trans hc13 (fun b hb _ => (hxlt b hb).2)
  have hy13 := hy10.kept hcy (fun b h1 _ h2 => by omega)
  have hnb : ∀ b, (Value.slice na (namesO (none : Option DSt)).length nc).ownBlock = some b → b < w1.heap.size := fun b hb => (hn1.lt b hb).2
  have hz8 : w1.heap.size ≤ w8.heap.size := hc8.size
  have hz9 : w8.heap.size ≤ w9.heap.size := hb9.size
  have hn13 := hc13.row ((Chg.of_below (O := fun _ => False) (hc8.trans ((hb9.trans (hd12.mono hb9.size)).mono hc8.size))).row hn1 (fun _ _ h => h)) (fun b hb hs => by have := hnb b hb; have := (hxlt b hs).1; omega)
  have HK := Lib.hid (And.intro hn13 (And.intro hy13 hbb13))
  clear hn13 hy13 hbb13 hcy hcB
  go_loopw [16] (fun i wr => ∃ k : Nat, k ≤ (namesO (none : Option DSt)).length ∧ i = .int .i64 k ∧ Chg (fun b => (Value.slice na (namesO (none : Option DSt)).length nc).ownBlock = some b) w13 wr ∧ ∃ ns, wr.ownsRow w.heap.size 9 1 (.slice na (namesO (none : Option DSt)).length nc) (namesO (none : Option DSt)).length ns) (fun i _ => (namesO (none : Option DSt)).length - (RowKit.intOf i).toNat)
  case atStart => exact ⟨0, by omega, rfl, Chg.refl _ _, _, HK.out.1⟩
  case round =>
    obtain ⟨k, hk, rfl, hck, ns, hnsr⟩ := hrel
    have hBr : Below w.heap.size w wr := ((Chg.of_below (O := fun b => w.heap.size ≤ b) HK.out.2.2).trans hck (fun b hb _ => (hn1.lt b hb).1)).below (fun _ h => h)
    by_cases hlt : k < (namesO (none : Option DSt)).length
    · obtain ⟨g, rfl⟩ : ∃ g, na = some ⟨g, 0, none⟩ := by
        rcases hnsr.2 with ⟨_, h0⟩ | ⟨g, cap, cur, e, _⟩
        · omega
        · cases e; exact ⟨g, rfl⟩
      obtain ⟨⟨u0, q0⟩, p0, hset⟩ := ownsRow_setS hnsr (g := g) rfl k (by omega) (.string ⟨#[115, 112, 111, 105, 108, 116]⟩)
      have hcs := hck.trans (Chg.set (O := fun b => (Value.slice (some ⟨g, 0, none⟩) (namesO (none : Option DSt)).length nc).ownBlock = some b) (.string ⟨#[115, 112, 111, 105, 108, 116]⟩) (a := ⟨g, k, none⟩) rfl) (fun _ h _ => h)
      have HS := Lib.hid (And.intro hset hcs)
      have j0 : (0 : Int) ≤ (k : Int) := by omega
      have j1 : (k : Int) < ((namesO (none : Option DSt)).length : Int) := by omega
      clear hset hcs hnsr hck
      go_wp2
      go_roundw
      case rel => exact ⟨k + 1, by omega, by go_num, HS.out.2, _, HS.out.1⟩
      case measure => simp [RowKit.intOf]; omega
    · obtain rfl : k = (namesO (none : Option DSt)).length := by omega
      have j1 : ¬ (((namesO (none : Option DSt)).length : Nat) : Int) < ((namesO (none : Option DSt)).length : Int) := by omega
      have hyr := HK.out.2.1.kept hck (fun b h1 _ h2 => by have := hnb b h2; omega)
      clear hnsr hck
      go_wp2_with (first
        | (go_at_call 18; with_reducible refine (hF2 _ hBr).mono ?_; rintro _ w14 ⟨sa, sc, rfl, hs14, hb14⟩; have hB14 := hBr.trans (hb14.mono hBr.size); obtain ⟨ya', yc', hye, hyr2⟩ := FilesRd.of_at (hyr.kept (Chg.of_below (O := fun _ => False) hb14) (fun _ _ _ h => h)); cases hye; have hS3 := SameFiles_any (c := yc) (d := sc) hyr2 hs14 (by omega); rw [hLL] at hS3)
        | (go_at_call 13; with_reducible refine hS3.mono ?_; rintro _ w15 ⟨rfl, hb15⟩; have hB15 := hB14.trans (hb15.mono hB14.size))
        | (go_at_call 14; refine (hF1 _ hB15).mono ?_; rintro _ w16 ⟨vz, zs, rfl, hz16, hb16⟩; have hB16 := hB15.trans (hb16.mono hB15.size))
        | (go_at_call 18; refine (hF2 _ hB16).mono ?_; rintro _ w17 ⟨ta', tc', rfl, ht17, hb17⟩; have hB17 := hB16.trans (hb17.mono hB16.size); obtain ⟨za, zc, rfl, hzr⟩ := FilesRd.of_at (hz16.kept (Chg.of_below (O := fun _ => False) hb17) (fun _ _ _ h => h)); have hS4 := SameFiles_any (c := zc) (d := tc') hzr ht17 (by omega); rw [hLL] at hS4)
        | (go_at_call 13; refine hS4.mono ?_; rintro _ w18 ⟨rfl, hb18⟩; have hB18 := hB17.trans (hb18.mono hB17.size)))
      go_ret
      exact ⟨rfl, hB18⟩
set_option maxRecDepth 100000 in
set_option maxHeartbeats 8000000 in
theorem tells_some {p r : Nat} {s : DSt} (h : Two F G w p s r s) (hok : s.Ok N) (hN : N < maxList) :
    Calls Tryz.prog 12 #[.pointer (some ⟨p, 0, none⟩), .pointer (some ⟨r, 0, none⟩)] w fun e w' => e = .returned (.bool true) ∧ Below w.heap.size w w' := by
  have hmx : maxList = 4194304 := rfl
  have hmax : maxLen = 9223372036854775807 := rfl
  have hok : ∀ s', some s = some s' → s'.Ok N := fun s' e => by cases e; exact hok
  obtain ⟨R2, h2⟩ := h.rat
  obtain ⟨vst, vla, vna, vsu, vsp, vwr, et, hr⟩ := h2
  obtain ⟨sa, sc, rfl, _⟩ := ownsRow_cell hr.steps.1
  obtain ⟨us, _, hw1, _⟩ := hr.writes
  obtain ⟨wa, wc, rfl, _⟩ := ownsRow_cell hw1
  have d0 := cell_of_heap hr.cells (i := 0) (v := .int .i64 (s.room : Int)) (by rfl)
  have d5 := cell_of_heap hr.cells (i := 5) (v := .slice sa s.steps.length sc) (by rfl)
  have d6 := cell_of_heap hr.cells (i := 6) (v := .slice wa s.writes.length wc) (by rfl)
  have d7 := cell_of_heap hr.cells (i := 7) (v := .int .i64 (s.done : Int)) (by rfl)
  have hrl := cell_lt d0
  have h := PairO.ofTwo h
  have hcn : Calls Tryz.prog 62 #[.pointer (some ⟨p, 0, none⟩)] w fun e w' => ∃ v, e = .returned (.tuple #[v, .int .i64 0]) ∧ w'.ownsRow w.heap.size 9 1 v (namesO (some s)).length ((namesO (some s)).map sv) ∧ Below w.heap.size w w' := h.names1 hok hN
  have HOK := Lib.hid hok
  have HP := Lib.hid h
  have hnl : (namesO (some s)).length ≤ maxLen := by have := (hok s rfl).manyNames; simp only [namesO, List.length_map]; omega
  clear h hok hr hw1
  go_enter Tryz.func12, Tryz.ntmps12
  go_upto_region 5 with (first | (go_at_call 62; refine hcn.mono ?_; rintro _ w1 ⟨vn, rfl, hn1, hb1⟩; have HP1 := Lib.hid (HP.out.below hb1); have hcp : Calls Tryz.prog 17 #[.pointer (some ⟨p, 0, none⟩)] w1 fun e w' => e = .returned (.tuple #[.int .i64 (s.steps.length : Int), .int .i64 (s.writes.length : Int)]) ∧ Below w1.heap.size w1 w' := HP1.out.pending1) | (go_at_call 17; refine hcp.mono ?_; rintro _ w2 ⟨rfl, hb2⟩))
  have hbb2 := hb1.trans (hb2.mono hb1.size)
  have e0 := (hbb2.cell (p := ⟨r, 0, none⟩) hrl).trans d0
  have e5 := (hbb2.cell (p := ⟨r, 5, none⟩) hrl).trans d5
  have e6 := (hbb2.cell (p := ⟨r, 6, none⟩) hrl).trans d6
  have e7 := (hbb2.cell (p := ⟨r, 7, none⟩) hrl).trans d7
  have hP2 := (HP1.out.below hb2).kept (O := fun _ => False) ((Chg.refl (fun _ => False) w2).drew) (fun _ _ h => h) (fun _ _ h => h)
  have hcl : Calls Tryz.prog 63 #[.pointer (some ⟨r, 0, none⟩)] w2.drew fun e w' => e = .returned (.int .i64 ((s.room - s.used : Nat) : Int)) ∧ Below w2.drew.heap.size w2.drew w' := hP2.left2 HOK.out hN
  refine wp_region_held_drew (S := fun w' => w'.cell? ⟨r, 0, none⟩ = some (.int .i64 (s.room : Int)) ∧ w'.cell? ⟨r, 5, none⟩ = some (.slice sa s.steps.length sc) ∧ w'.cell? ⟨r, 6, none⟩ = some (.slice wa s.writes.length wc) ∧ w'.cell? ⟨r, 7, none⟩ = some (.int .i64 (s.done : Int))) (by kernel_rfl) (⟨e0, e5, e6, e7⟩) (fun hHeld => ?_)
  refine wpAnyH_take (i := 0) (v := ?_) rfl (by kernel_rfl) (by kernel_rfl) (by kernel_rfl) (fun _ _ _ h => h) (Or.inl ⟨by rfl, ?_⟩) hHeld ?_
  rotate_left
  · intro w hSw; (try dsimp only at hSw); go_simp
    all_goals (with_reducible rfl)
  (try simp only [Act.put, List.setIfInBounds_toArray, List.set_cons_zero, List.set_cons_succ])
  refine wpAnyH_take (i := 1) (v := ?_) rfl (by kernel_rfl) (by kernel_rfl) (by kernel_rfl) (fun _ _ _ h => h) (Or.inl ⟨by rfl, ?_⟩) hHeld ?_
  rotate_left
  · intro w hSw; (try dsimp only at hSw); go_simp
    all_goals (with_reducible rfl)
  (try simp only [Act.put, List.setIfInBounds_toArray, List.set_cons_zero, List.set_cons_succ])
  refine wpAnyH_take (i := 2) (v := ?_) rfl (by kernel_rfl) (by kernel_rfl) (by kernel_rfl) (fun _ _ _ h => h) (Or.inl ⟨by rfl, ?_⟩) hHeld ?_
  rotate_left
  · intro w hSw; (try dsimp only at hSw); go_simp
    all_goals (with_reducible rfl)
  (try simp only [Act.put, List.setIfInBounds_toArray, List.set_cons_zero, List.set_cons_succ])
  refine wpAnyH_take (i := 3) (v := ?_) rfl (by kernel_rfl) (by kernel_rfl) (by kernel_rfl) (fun _ _ _ h => h) (Or.inl ⟨by rfl, ?_⟩) hHeld ?_
  rotate_left
  · intro w hSw; (try dsimp only at hSw); go_simp
    all_goals (with_reducible rfl)
  (try simp only [Act.put, List.setIfInBounds_toArray, List.set_cons_zero, List.set_cons_succ])
  refine wpAnyH_take (i := 4) (v := ?_) rfl (by kernel_rfl) (by kernel_rfl) (by kernel_rfl) (fun _ _ _ h => h) (Or.inl ⟨by rfl, ?_⟩) hHeld ?_
  rotate_left
  · intro w hSw; (try dsimp only at hSw); go_simp
    all_goals (with_reducible rfl)
  (try simp only [Act.put, List.setIfInBounds_toArray, List.set_cons_zero, List.set_cons_succ])
  refine wpAnyH_take (i := 5) (v := ?_) rfl (by kernel_rfl) (by kernel_rfl) (by kernel_rfl) (fun _ _ _ h => h) (Or.inl ⟨by rfl, ?_⟩) hHeld ?_
  rotate_left
  · intro w hSw; (try dsimp only at hSw); go_simp
    all_goals (with_reducible rfl)
  (try simp only [Act.put, List.setIfInBounds_toArray, List.set_cons_zero, List.set_cons_succ])
  refine wpAnyH_take (i := 6) (v := ?_) rfl (by kernel_rfl) (by kernel_rfl) (by kernel_rfl) (fun _ _ _ h => h) (Or.inl ⟨by rfl, ?_⟩) hHeld ?_
  rotate_left
  · intro w hSw; (try dsimp only at hSw); go_simp
    all_goals (with_reducible rfl)
  (try simp only [Act.put, List.setIfInBounds_toArray, List.set_cons_zero, List.set_cons_succ])
  refine wpAnyH_take (i := 7) (v := ?_) rfl (by kernel_rfl) (by kernel_rfl) (by kernel_rfl) (fun _ _ _ h => h) (Or.inl ⟨by rfl, ?_⟩) hHeld ?_
  rotate_left
  · intro w hSw; (try dsimp only at hSw); go_simp
    all_goals (with_reducible rfl)
  (try simp only [Act.put, List.setIfInBounds_toArray, List.set_cons_zero, List.set_cons_succ])
  refine wpAnyH_take (i := 8) (v := ?_) rfl (by kernel_rfl) (by kernel_rfl) (by kernel_rfl) (fun _ _ _ h => h) (Or.inl ⟨by rfl, ?_⟩) hHeld ?_
  rotate_left
  · intro w hSw; (try dsimp only at hSw); go_simp
    all_goals (with_reducible rfl)
  (try simp only [Act.put, List.setIfInBounds_toArray, List.set_cons_zero, List.set_cons_succ])
  refine wpAnyH_take (i := 9) (v := ?_) rfl (by kernel_rfl) (by kernel_rfl) (by kernel_rfl) (fun _ _ _ h => h) (Or.inl ⟨by rfl, ?_⟩) hHeld ?_
  rotate_left
  · intro w hSw; (try dsimp only at hSw); go_simp
    all_goals (with_reducible rfl)
  (try simp only [Act.put, List.setIfInBounds_toArray, List.set_cons_zero, List.set_cons_succ])
  refine wpAnyH_take (i := 10) (v := ?_) rfl (by kernel_rfl) (by kernel_rfl) (by kernel_rfl) (fun _ _ _ h => h) (Or.inl ⟨by rfl, ?_⟩) hHeld ?_
  rotate_left
  · intro w hSw; (try dsimp only at hSw); go_simp
    all_goals (with_reducible rfl)
  (try simp only [Act.put, List.setIfInBounds_toArray, List.set_cons_zero, List.set_cons_succ])
  refine wpAnyH_take (i := 11) (v := ?_) rfl (by kernel_rfl) (by kernel_rfl) (by kernel_rfl) (fun _ _ _ h => h) (Or.inl ⟨by rfl, ?_⟩) hHeld ?_
  rotate_left
  · intro w hSw; (try dsimp only at hSw); go_simp
    all_goals (with_reducible rfl)
  (try simp only [Act.put, List.setIfInBounds_toArray, List.set_cons_zero, List.set_cons_succ])
  refine wpAnyH_take (i := 12) (v := ?_) rfl (by kernel_rfl) (by kernel_rfl) (by kernel_rfl) (fun _ _ _ h => h) (Or.inl ⟨by rfl, ?_⟩) hHeld ?_
  rotate_left
  · intro w hSw; (try dsimp only at hSw); go_simp
    all_goals (with_reducible rfl)
  (try simp only [Act.put, List.setIfInBounds_toArray, List.set_cons_zero, List.set_cons_succ])
  refine wpAnyH_take (i := 13) (v := ?_) rfl (by kernel_rfl) (by kernel_rfl) (by kernel_rfl) (fun _ _ _ h => h) (Or.inl ⟨by rfl, ?_⟩) hHeld ?_
  rotate_left
  · intro w hSw; (try dsimp only at hSw); go_simp
    all_goals (with_reducible rfl)
  (try simp only [Act.put, List.setIfInBounds_toArray, List.set_cons_zero, List.set_cons_succ])
  refine wpAnyH_take (i := 14) (v := ?_) rfl (by kernel_rfl) (by kernel_rfl) (by kernel_rfl) (fun _ _ _ h => h) (Or.inl ⟨by rfl, ?_⟩) hHeld ?_
  rotate_left
  · intro w hSw; (try dsimp only at hSw); go_simp
    all_goals (with_reducible rfl)
  (try simp only [Act.put, List.setIfInBounds_toArray, List.set_cons_zero, List.set_cons_succ])
  refine wpAnyH_take (i := 16) (v := ?_) rfl (by kernel_rfl) (by kernel_rfl) (by kernel_rfl) (fun _ _ _ h => h) (Or.inl ⟨by rfl, ?_⟩) hHeld ?_
  rotate_left
  · intro w hSw; (try dsimp only at hSw); go_simp
    all_goals (with_reducible rfl)
  (try simp only [Act.put, List.setIfInBounds_toArray, List.set_cons_zero, List.set_cons_succ])
  refine wpAnyH_take (i := 17) (v := ?_) rfl (by kernel_rfl) (by kernel_rfl) (by kernel_rfl) (fun _ _ _ h => h) (Or.inl ⟨by rfl, ?_⟩) hHeld ?_
  rotate_left
  · intro w hSw; (try dsimp only at hSw); go_simp
    all_goals (with_reducible rfl)
  (try simp only [Act.put, List.setIfInBounds_toArray, List.set_cons_zero, List.set_cons_succ])
  refine wpAnyH_take (i := 18) (v := ?_) rfl (by kernel_rfl) (by kernel_rfl) (by kernel_rfl) (fun _ _ _ h => h) (Or.inl ⟨by rfl, ?_⟩) hHeld ?_
  rotate_left
  · intro w hSw; (try dsimp only at hSw); go_simp
    all_goals (with_reducible rfl)
  (try simp only [Act.put, List.setIfInBounds_toArray, List.set_cons_zero, List.set_cons_succ])
  refine wpAnyH_take (i := 19) (v := ?_) rfl (by kernel_rfl) (by kernel_rfl) (by kernel_rfl) (fun _ _ _ h => h) (Or.inl ⟨by rfl, ?_⟩) hHeld ?_
  rotate_left
  · intro w hSw; (try dsimp only at hSw); go_simp
    all_goals (with_reducible rfl)
  (try simp only [Act.put, List.setIfInBounds_toArray, List.set_cons_zero, List.set_cons_succ])
  refine wpAnyH_ready (rs := [15]) (by kernel_rfl) (by simp) ?_
  refine AllReadyH.cons rfl (fun K hK => ?_) AllReadyH.nil
  go_simp
  go_wp2_with (first | (go_at_call 63; refine hcl.mono ?_; rintro _ w3 ⟨rfl, hb3⟩))
  have hr3 : r < w2.drew.heap.size := Nat.lt_of_lt_of_le hrl hbb2.size
  have k0 := (hb3.cell (p := ⟨r, 0, none⟩) hr3).trans e0
  have k5 := (hb3.cell (p := ⟨r, 5, none⟩) hr3).trans e5
  have k6 := (hb3.cell (p := ⟨r, 6, none⟩) hr3).trans e6
  have k7 := (hb3.cell (p := ⟨r, 7, none⟩) hr3).trans e7
  
  refine hK.out _ _ (⟨k0, k5, k6, k7⟩) (fun hHeld => ?_)
  clear hK K
  (try simp only [Act.put, List.setIfInBounds_toArray, List.set_cons_zero, List.set_cons_succ])
  refine wpAnyH_take (i := 20) (v := ?_) rfl (by kernel_rfl) (by kernel_rfl) (by kernel_rfl) (fun _ _ _ h => h) (Or.inl ⟨by rfl, ?_⟩) hHeld ?_
  rotate_left
  · intro w hSw; (try dsimp only at hSw); go_simp
    all_goals (with_reducible rfl)
  (try simp only [Act.put, List.setIfInBounds_toArray, List.set_cons_zero, List.set_cons_succ])
  refine wpAnyH_take (i := 21) (v := ?_) rfl (by kernel_rfl) (by kernel_rfl) (by kernel_rfl) (fun _ _ _ h => h) (Or.inl ⟨by rfl, ?_⟩) hHeld ?_
  rotate_left
  · intro w hSw; (try dsimp only at hSw); go_simp
    all_goals (with_reducible rfl)
  (try simp only [Act.put, List.setIfInBounds_toArray, List.set_cons_zero, List.set_cons_succ])
  refine wpAnyH_take (i := 22) (v := ?_) rfl (by kernel_rfl) (by kernel_rfl) (by kernel_rfl) (fun _ _ _ h => h) (Or.inl ⟨by rfl, ?_⟩) hHeld ?_
  rotate_left
  · intro w hSw; (try dsimp only at hSw); go_simp
    all_goals (with_reducible rfl)
  (try simp only [Act.put, List.setIfInBounds_toArray, List.set_cons_zero, List.set_cons_succ])
  refine wpAnyH_take (i := 23) (v := ?_) rfl (by kernel_rfl) (by kernel_rfl) (by kernel_rfl) (fun _ _ _ h => h) (Or.inl ⟨by rfl, ?_⟩) hHeld ?_
  rotate_left
  · intro w hSw; (try dsimp only at hSw); go_simp
    all_goals (with_reducible rfl)
  (try simp only [Act.put, List.setIfInBounds_toArray, List.set_cons_zero, List.set_cons_succ])
  refine wpAnyH_take (i := 24) (v := ?_) rfl (by kernel_rfl) (by kernel_rfl) (by kernel_rfl) (fun _ _ _ h => h) (Or.inl ⟨by rfl, ?_⟩) hHeld ?_
  rotate_left
  · intro w hSw; (try dsimp only at hSw); go_simp
    all_goals (with_reducible rfl)
  (try simp only [Act.put, List.setIfInBounds_toArray, List.set_cons_zero, List.set_cons_succ])
  refine wpAnyH_done (by kernel_rfl) ?_ _
  have hb23 : Below w2.heap.size w2 w3 := ⟨hb3.os, hb3.tape, hb3.output, hb3.size, hb3.block⟩
  have hc3 : Below w1.heap.size w1 w3 := hb2.trans (hb23.mono hb2.size)
  clear hHeld hcl hP2 hb3 hcp hcn
  have hST : ∀ W, Below w1.heap.size w1 W → Calls Tryz.prog 64 #[.pointer (some ⟨p, 0, none⟩)] W fun e w' => e = .returned (.int .i64 (s.done : Int)) ∧ Below W.heap.size W w' := fun W hW => (HP1.out.below hW).steps1
  have hRO : ∀ W, Below w1.heap.size w1 W → Calls Tryz.prog 65 #[.pointer (some ⟨p, 0, none⟩)] W fun e w' => e = .returned (.int .i64 ((s.room - s.used : Nat) : Int)) ∧ Below W.heap.size W w' := fun W hW => (HP1.out.below hW).room1 HOK.out hN
  have hCA : ∀ W, Below w1.heap.size w1 W → Calls Tryz.prog 15 #[.pointer (some ⟨p, 0, none⟩)] W fun e w' => e = .returned (.int .i64 (s.room : Int)) ∧ Below W.heap.size W w' := fun W hW => (HP1.out.below hW).capacity1
  have hTX := fun W (hW : Below w1.heap.size w1 W) => (HP1.out.below hW).texts2 HOK.out hN
  have hF1 := fun W (hW : Below w.heap.size w W) => (HP.out.below hW).files1 HOK.out hN
  have hF2 := fun W (hW : Below w.heap.size w W) => (HP.out.below hW).files2 HOK.out hN
  have hby := allO_bytes (o := (some s)) (N := N) HOK.out
  have hfl := allO_len (o := (some s)) HOK.out hN
  generalize allO (some s) = LF at hF1 hF2 hby hfl
  have hLL : (LF == LF) = true := by simp
  have hNN : (namesO (some s) == namesO (some s)) = true := by simp
  have f0 : (((s.steps.length : Int) : Int) != (s.steps.length : Int)) = false := by simp
  have f1 : (((s.writes.length : Int) : Int) != (s.writes.length : Int)) = false := by simp
  have f2 : (((s.done : Int) : Int) != (s.done : Int)) = false := by simp
  have f3 : ((((s.room - s.used : Nat) : Int) : Int) != ((s.room - s.used : Nat) : Int)) = false := by simp
  have f4 : (((s.room : Int) : Int) != (s.room : Int)) = false := by simp
  obtain ⟨na, nc, rfl, _⟩ := ownsRow_cell hn1
  go_wp2_with (first
    | (go_at_call 8; refine (num_any _ _).mono ?_; rintro _ wn ⟨rfl, rfl⟩)
    | (go_at_call 64; refine (hST _ hc3).mono ?_; rintro _ w4 ⟨rfl, hb4⟩; have hc4 := hc3.trans (hb4.mono hc3.size))
    | (go_at_call 65; refine (hRO _ hc4).mono ?_; rintro _ w5 ⟨rfl, hb5⟩; have hc5 := hc4.trans (hb5.mono hc4.size))
    | (go_at_call 15; refine (hCA _ hc5).mono ?_; rintro _ w6 ⟨rfl, hb6⟩; have hc6 := hc5.trans (hb6.mono hc5.size))
    | (go_at_call 67; refine (hTX _ hc6).mono ?_; rintro _ w7 ⟨vt, rfl, ht7, hb7⟩; have hc7 := hc6.trans (hb7.mono hc6.size); obtain ⟨ta, tc, rfl, htr, _⟩ := RowAt.of_owns ht7; obtain ⟨na', nc', hne, hnr, _⟩ := RowAt.of_owns ((Chg.of_below (O := fun _ => False) hc7).row hn1 (fun _ _ h => h)); cases hne; have hS := SameTexts_any (c := nc) (d := tc) hnr htr hnl; rw [hNN] at hS)
    | (go_at_call 66; refine hS.mono ?_; rintro _ w8 ⟨rfl, hb8⟩; have hc8 := hc7.trans (hb8.mono hc7.size); have hbb8 := hb1.trans (hc8.mono hb1.size))
    | (go_at_call 14; refine (hF1 _ hbb8).mono ?_; rintro _ w9 ⟨vx, xs, rfl, hx9, hb9⟩; have hbb9 := hbb8.trans (hb9.mono hbb8.size))
    | (go_at_call 14; refine (hF1 _ hbb9).mono ?_; rintro _ w10 ⟨vy, ys, rfl, hy10, hb10⟩; have hbb10 := hbb9.trans (hb10.mono hbb9.size))
    | (go_at_call 18; refine (hF2 _ hbb10).mono ?_; rintro _ w11 ⟨ra, rc, rfl, hr11, hb11⟩; have hbb11 := hbb10.trans (hb11.mono hbb10.size); have hd11 := hb10.trans (hb11.mono hb10.size); have hx11 := hx9.kept (Chg.of_below (O := fun _ => False) hd11) (fun _ _ _ h => h); obtain ⟨xa, xc, rfl, hxr⟩ := FilesRd.of_at hx11; have hS2 := SameFiles_any (c := xc) (d := rc) hxr hr11 (by omega); rw [hLL] at hS2)
    | (go_at_call 13; refine hS2.mono ?_; rintro _ w12 ⟨rfl, hb12⟩; have hbb12 := hbb11.trans (hb12.mono hbb11.size); have hd12 := hd11.trans (hb12.mono hd11.size); have hsp := (hx9.spoilOk hby).kept (Chg.of_below (O := fun _ => False) hd12) (fun _ _ h => h))
    | (go_at_call 25; refine (spoil_any hsp (by omega)).mono ?_; rintro _ w13 ⟨rfl, hc13⟩))
  obtain ⟨ya, yc, rfl, _⟩ := FilesRd.of_at hy10
  have hxlt := fun b (hb : SpoilB _ _ _ b) => (hx9.spoilOk hby).lt hb
  have hcB : Chg (fun b => w.heap.size ≤ b) w w13 := ((Chg.of_below (O := fun b => w.heap.size ≤ b) hbb12)).trans hc13 (fun b hb _ => Nat.le_trans hbb8.size (hxlt b hb).1)
  have hbb13 : Below w.heap.size w w13 := hcB.below (fun _ h => h)
  have hcy : Chg (fun b => b < w9.heap.size) w10 w13 := (Chg.of_below (O := fun b => b < w9.heap.size) (hb11.trans (hb12.mono hb11.size))).trans hc13 (fun b hb _ => (hxlt b hb).2)
  have hy13 := hy10.kept hcy (fun b h1 _ h2 => by omega)
  have hnb : ∀ b, (Value.slice na (namesO (some s)).length nc).ownBlock = some b → b < w1.heap.size := fun b hb => (hn1.lt b hb).2
  have hz8 : w1.heap.size ≤ w8.heap.size := hc8.size
  have hz9 : w8.heap.size ≤ w9.heap.size := hb9.size
  have hn13 := hc13.row ((Chg.of_below (O := fun _ => False) (hc8.trans ((hb9.trans (hd12.mono hb9.size)).mono hc8.size))).row hn1 (fun _ _ h => h)) (fun b hb hs => by have := hnb b hb; have := (hxlt b hs).1; omega)
  have HK := Lib.hid (And.intro hn13 (And.intro hy13 hbb13))
  clear hn13 hy13 hbb13 hcy hcB
  go_loopw [16] (fun i wr => ∃ k : Nat, k ≤ (namesO (some s)).length ∧ i = .int .i64 k ∧ Chg (fun b => (Value.slice na (namesO (some s)).length nc).ownBlock = some b) w13 wr ∧ ∃ ns, wr.ownsRow w.heap.size 9 1 (.slice na (namesO (some s)).length nc) (namesO (some s)).length ns) (fun i _ => (namesO (some s)).length - (RowKit.intOf i).toNat)
  case atStart => exact ⟨0, by omega, rfl, Chg.refl _ _, _, HK.out.1⟩
  case round =>
    obtain ⟨k, hk, rfl, hck, ns, hnsr⟩ := hrel
    have hBr : Below w.heap.size w wr := ((Chg.of_below (O := fun b => w.heap.size ≤ b) HK.out.2.2).trans hck (fun b hb _ => (hn1.lt b hb).1)).below (fun _ h => h)
    by_cases hlt : k < (namesO (some s)).length
    · obtain ⟨g, rfl⟩ : ∃ g, na = some ⟨g, 0, none⟩ := by
        rcases hnsr.2 with ⟨_, h0⟩ | ⟨g, cap, cur, e, _⟩
        · omega
        · cases e; exact ⟨g, rfl⟩
      obtain ⟨⟨u0, q0⟩, p0, hset⟩ := ownsRow_setS hnsr (g := g) rfl k (by omega) (.string ⟨#[115, 112, 111, 105, 108, 116]⟩)
      have hcs := hck.trans (Chg.set (O := fun b => (Value.slice (some ⟨g, 0, none⟩) (namesO (some s)).length nc).ownBlock = some b) (.string ⟨#[115, 112, 111, 105, 108, 116]⟩) (a := ⟨g, k, none⟩) rfl) (fun _ h _ => h)
      have HS := Lib.hid (And.intro hset hcs)
      have j0 : (0 : Int) ≤ (k : Int) := by omega
      have j1 : (k : Int) < ((namesO (some s)).length : Int) := by omega
      clear hset hcs hnsr hck
      go_wp2
      go_roundw
      case rel => exact ⟨k + 1, by omega, by go_num, HS.out.2, _, HS.out.1⟩
      case measure => simp [RowKit.intOf]; omega
    · obtain rfl : k = (namesO (some s)).length := by omega
      have j1 : ¬ (((namesO (some s)).length : Nat) : Int) < ((namesO (some s)).length : Int) := by omega
      have hyr := HK.out.2.1.kept hck (fun b h1 _ h2 => by have := hnb b h2; omega)
      clear hnsr hck
      go_wp2_with (first
        | (go_at_call 18; with_reducible refine (hF2 _ hBr).mono ?_; rintro _ w14 ⟨sa, sc, rfl, hs14, hb14⟩; have hB14 := hBr.trans (hb14.mono hBr.size); obtain ⟨ya', yc', hye, hyr2⟩ := FilesRd.of_at (hyr.kept (Chg.of_below (O := fun _ => False) hb14) (fun _ _ _ h => h)); cases hye; have hS3 := SameFiles_any (c := yc) (d := sc) hyr2 hs14 (by omega); rw [hLL] at hS3)
        | (go_at_call 13; with_reducible refine hS3.mono ?_; rintro _ w15 ⟨rfl, hb15⟩; have hB15 := hB14.trans (hb15.mono hB14.size))
        | (go_at_call 14; refine (hF1 _ hB15).mono ?_; rintro _ w16 ⟨vz, zs, rfl, hz16, hb16⟩; have hB16 := hB15.trans (hb16.mono hB15.size))
        | (go_at_call 18; refine (hF2 _ hB16).mono ?_; rintro _ w17 ⟨ta', tc', rfl, ht17, hb17⟩; have hB17 := hB16.trans (hb17.mono hB16.size); obtain ⟨za, zc, rfl, hzr⟩ := FilesRd.of_at (hz16.kept (Chg.of_below (O := fun _ => False) hb17) (fun _ _ _ h => h)); have hS4 := SameFiles_any (c := zc) (d := tc') hzr ht17 (by omega); rw [hLL] at hS4)
        | (go_at_call 13; refine hS4.mono ?_; rintro _ w18 ⟨rfl, hb18⟩; have hB18 := hB17.trans (hb18.mono hB17.size)))
      go_ret
      exact ⟨rfl, hB18⟩
theorem tells_any {v1 v2 : Option Addr} {o : Option DSt} (h : PairO F G w v1 o v2 o) (hok : ∀ s, o = some s → s.Ok N) (hN : N < maxList) :
    Calls Tryz.prog 12 #[.pointer v1, .pointer v2] w fun e w' => e = .returned (.bool true) ∧ Below w.heap.size w w' := by
  obtain ⟨rfl, _, rfl, rfl⟩ | ⟨s1, s2, p, r, rfl, e2, rfl, rfl, ht⟩ := h.cases
  · exact tells_nil h hN
  · cases e2
    exact tells_some ht (hok _ rfl) hN
end

end Go.Proofs.YtgckcnnnblggbaaGreat
