/- Texts of this claim, one behind the other: Fv5, Fv8, Fx1, Fx2. -/
import Derived.Test.YtlmdpcaikhdenaaGreatSl30
import Derived.Test.YtlmdpcaikhdenaaGreatSl31
import Derived.Test.YtlmdpcaikhdenaaGreatSl34
import Derived.Test.YtlmdpcaikhdenaaGreatSl29
set_option linter.unusedSimpArgs false
set_option linter.unusedVariables false
/- SegmentLasts: the law's calls, one by one, over a disk of one file. -/
namespace Go.Proofs.YtlmdpcaikhdenaaGreat
open Go.RowKit Go.Maps

theorem One.stop {F G : Nat → Prop} {w : World} {p : Nat} {s : DSt} {N : Nat} (h : One F G w p s) {names torn : Int} (htorn : torn < 9223372036854775808) {ka : Option Addr} {kc : Nat} {keep : List Bool} (hkrow : RowAt w ka (keep.map Value.bool)) (hkeep : keep.length ≤ maxLen) (hok : s.Ok N) (hN : N < maxList) :
    Calls Tryz.prog 23 #[.pointer (some ⟨p, 0, none⟩), .agg #[.int .i64 names, .slice ka keep.length kc, .int .i64 torn]] w fun e w' => ∃ po F' G', e = .returned (.pointer (some ⟨po, 0, none⟩)) ∧ One F' G' w' po (s.stop names keep torn) ∧ (∀ b, F' b → w.heap.size ≤ b) ∧ Below w.heap.size w w' :=
  (h.has.stop htorn hkrow hkeep hok hN).mono fun e w' ⟨po, k1, ⟨own, R, k2, k3⟩, k4⟩ => ⟨po, fun b => b ∈ own, R, k1, ⟨own, R, k2, fun _ => Iff.rfl, fun _ => Iff.rfl⟩, k3, k4⟩
/-- what a segment is behind its own entries -/
def ownV (n : Nat) (L : List (List UInt8)) : SegV := ⟨(n : Int), L, ((encL n L).length : Int), ((encL n L).length : Int), 0⟩
theorem ownV_of {n : Nat} {L : List (List UInt8)} (h : EntOk n L) : SegV.of n (encL n L) = ownV n L := by unfold SegV.of ownV; rw [seg_enc h]; rfl
theorem ownV_behind {n : Nat} {L M : List (List UInt8)} : SegV.behind (ownV n L) M ((encL (n + L.length) M).length : Int) = ownV n (L ++ M) := by
  have e : ((encL n (L ++ M)).length : Int) = ((encL n L).length : Int) + ((encL (n + L.length) M).length : Int) := by rw [encL_app, List.length_append]; omega
  unfold SegV.behind ownV
  rw [e]
  simp only
  rw [if_pos (by omega), if_pos (by omega)]
theorem fits_ent {n : Nat} {L : List (List UInt8)} (h : fitsE (n : Int) 0 L = 0) : EntOk n L ∧ n ≤ 4611686018427387904 := by
  obtain ⟨f0, f1, f2, f3, f4⟩ := fits_ok h
  refine ⟨⟨by omega, f4, ?_⟩, by omega⟩
  by_cases h0 : 0 < L.length
  · have := f2 h0; omega
  · omega
theorem ent_fits {n : Nat} {L M : List (List UInt8)} (h : EntOk n (L ++ M)) (hn : n ≤ 4611686018427387904) : fitsE (n : Int) L.length M = 0 := by
  obtain ⟨h1, h2, h3⟩ := h
  rw [List.length_append] at h1 h3
  unfold fitsE
  rw [if_neg (by omega), if_neg (by omega), if_neg]
  rintro ⟨e, he, hl⟩
  have := h2 e (List.mem_append_right _ he)
  omega
theorem encL_bytes (n : Nat) (L : List (List UInt8)) : (encL n L).length = bytesL L + L.length * 19 := by
  have key : ∀ (L : List (List UInt8)) (n k : Nat), k + (encL n L).length = (L.map List.length).foldl (· + ·) k + L.length * 19 := by
    intro L
    induction L with
    | nil => intro n k; simp [encL]
    | cons e r ih =>
      intro n k
      have := ih (n + 1) (k + e.length)
      simp only [encL, List.length_append, frame_len, one_len, List.map_cons, List.foldl_cons, List.length_cons]
      omega
  have := key L n 0
  unfold bytesL
  omega
/-- Append of entries behind those that stand: the disk's file is their frames -/
theorem last_append {nm : List UInt8} {n R k : Nat} {la : List UInt8} {su : NL} {sp : List NStep} {ws : List Wr} {L M : List (List UInt8)} (hnm : nm = segName (n : Int)) {N : Nat} (hok : (D1 nm R (encL n L) la su sp ws k).Ok N) (hN : N + 1 < maxList) (hn : n ≤ 4611686018427387904) (hE : EntOk n (L ++ M)) (hR : (encL n (L ++ M)).length ≤ R) (hR2 : R ≤ 1099511627776) :
    ∃ ws' k', ws' = (if M = [] then ws else ws ++ [⟨0, false, (encL n L).length, encL (n + L.length) M⟩]) ∧ (D1 nm R (encL n (L ++ M)) la su sp ws' k').Ok (N + 1) ∧
      ∀ {F G : Nat → Prop} {w : World} {p : Nat} (_ : One F G w p (D1 nm R (encL n L) la su sp ws k)) {a b : Option Addr} {c cb : Nat} (_ : EntsAt w a L) (_ : ∀ w', Chg F w w' → EntsAt w' b M), Calls Tryz.prog 18 #[devD p, .agg #[.int .i64 (n : Int), .slice a L.length c, .int .i64 ((encL n L).length : Int), .int .i64 ((encL n L).length : Int), .int .i64 0], .slice b M.length cb] w
        (SegPost F G (fun F G w => One F G w p (D1 nm R (encL n (L ++ M)) la su sp ws' k')) w (ownV n (L ++ M), 0)) := by
  have hLb : ∀ e ∈ L, e.length ≤ 140737488355328 := fun e he => by have := hE.2.1 e (List.mem_append_left _ he); omega
  have hfit := ent_fits hE hn
  have hl4 : L.length ≤ 4096 := by have := hE.1; rw [List.length_append] at this; omega
  by_cases hM0 : M = []
  · subst hM0
    refine ⟨ws, k, by rw [if_pos rfl], by rw [List.append_nil]; exact hok.mono (by omega), fun {F G w p} h {a b c cb} hA hM => ?_⟩
    rw [List.append_nil]
    exact append_nil (At := fun F G w => One F G w p (D1 nm R (encL n L) la su sp ws k)) (Lies.one p _) h (by omega) (by omega) hLb hA hfit
  · have hput := d1_put (nm := nm) (R := R) (st := encL n L) (la := la) (su := su) (sp := sp) (ws := ws) (k := k) (b := encL (n + L.length) M) (by rw [← List.length_append, ← encL_app]; exact hR)
    rw [← encL_app] at hput
    refine ⟨ws ++ [⟨0, false, (encL n L).length, encL (n + L.length) M⟩], k + 1, by rw [if_neg hM0], ?_, fun {F G w p} h {a b c cb} hA hM => ?_⟩
    · have := hok.put nm ((encL n L).length : Int) (encL (n + L.length) M)
      rw [hput] at this
      exact this
    · have hlen : (encL n L).length ≤ R := by rw [encL_app, List.length_append] at hR; omega
      have := append_disk h hok hN (f := (n : Int)) (g := ((encL n L).length : Int)) (z := ((encL n L).length : Int)) (y := 0) (c := c) (cb := cb) (by omega) (by omega) hLb hA hM hM0 hfit
      rw [Int.toNat_natCast, ← hnm, hput] at this
      rw [if_pos (show ((0 : Nat) : Int) = 0 from rfl)] at this
      have e := ownV_behind (n := n) (L := L) (M := M)
      unfold ownV at e
      rw [e] at this
      exact this
section
variable {F G : Nat → Prop} {w : World} {p : Nat}
/-- Scan of a file -/
theorem last_scan {s : DSt} (h : One F G w p s) {N : Nat} (hok : s.Ok N) (hN : N < maxList) {n : Nat} (hn : n ≤ 4611686018427387904) {b : List UInt8} (ht : s.text (segName (n : Int)) = some b) : Calls Tryz.prog 21 #[devD p, .int .i64 (n : Int)] w (ScanPost w (SegV.of n b, 0)) := by
  have := scan_any h hok hN (f := (n : Int)) (by omega)
  have e : scanD s (n : Int) = (SegV.of n b, 0) := by
    unfold scanD
    rw [if_neg (by omega)]
    unfold scanN
    rw [Int.toNat_natCast, ht]
  rw [e] at this
  exact this
end
/-- what Decode tells of what a stop left: a beginning of the entries, all that lasted -/
theorem last_left {n : Nat} {A B : List (List UInt8)} (h : EntOk n (A ++ B)) {m : Nat} (hm : m ≤ (encL (n + A.length) B).length) : ∃ (j why : Nat), A.length ≤ j ∧ j ≤ (A ++ B).length ∧ SegV.of n (encL n A ++ (encL (n + A.length) B).take m) = ⟨(n : Int), (A ++ B).take j, ((encL n ((A ++ B).take j)).length : Int), ((encL n A ++ (encL (n + A.length) B).take m).length : Int), (why : Int)⟩ ∧
    ((why = 0 ∧ encL n A ++ (encL (n + A.length) B).take m = encL n ((A ++ B).take j)) ∨ (why = 170 ∧ (encL n ((A ++ B).take j)).length < (encL n A ++ (encL (n + A.length) B).take m).length)) ∧ (encL n A ++ (encL (n + A.length) B).take m).take (encL n ((A ++ B).take j)).length = encL n ((A ++ B).take j) ∧ EntOk n ((A ++ B).take j) := by
  have hc : encL n A ++ (encL (n + A.length) B).take m = (encL n (A ++ B)).take ((encL n A).length + m) := by
    rw [encL_app, List.take_append, List.take_of_length_le (l := encL n A) (i := (encL n A).length + m) (by omega), Nat.add_sub_cancel_left]
  obtain ⟨j, why, h1, h2, h3, h4, h5, h6⟩ := seg_take h ((encL n A).length + m)
  have hA : (A ++ B).take A.length = A := List.take_left' rfl
  have hj := h6 A.length (by rw [List.length_append]; omega) (by rw [hA]; omega)
  refine ⟨j, why, hj, h1, ?_, by rw [hc]; exact h3, ?_, EntOk.left (M := (A ++ B).drop j) (by rw [List.take_append_drop]; exact h)⟩
  · unfold SegV.of
    rw [hc, h2]
  · rw [hc, List.take_take]
    rcases h3 with ⟨_, e⟩ | ⟨_, e⟩
    · have h7 := congrArg List.length e
      rw [List.length_take] at h7
      rw [Nat.min_eq_left (by omega)]
      exact h4
    · rw [List.length_take] at e
      rw [Nat.min_eq_left (by omega)]
      exact h4

end Go.Proofs.YtlmdpcaikhdenaaGreat
/- SegmentLasts: Repair behind a stop. -/
namespace Go.Proofs.YtlmdpcaikhdenaaGreat
open Go.RowKit Go.Maps

section
variable {F G : Nat → Prop} {w : World} {p : Nat}
theorem rep1_disk {s : DSt} {N : Nat} (h : One F G w p s) (hok : s.Ok N) (hN : N + 1 < maxList) {nm : List UInt8} (hnm : nm.length ≤ maxLen) {b3 b4 : Nat} {e3 : TypeId} {f g z y : Int} (hg : 0 ≤ g) (hg1 : g < 9223372036854775808) {es : Value}
    (k3 : w.heap[b3]? = some (.cells #[devD p] e3 (0, 0))) (k4 : w.heap[b4]? = some (.cells #[.int .i64 f, es, .int .i64 g, .int .i64 z, .int .i64 y] 42 (0, 0))) :
    Calls Tryz.prog 54 #[.string ⟨nm.toArray⟩, .pointer (some ⟨b3, 0, none⟩), .pointer (some ⟨b4, 0, none⟩)] w fun e w' => e = .returned (.int .i64 ((s.cut nm g).2 : Int)) ∧ ∃ F' G', One F' G' w' p (s.cut nm g).1 ∧ Moved F G F' G' w w' := by
  have hP := h.cut hnm (size := g) (by omega) hok hN
  have c3 := cell_of_heap k3 (i := 0) (v := devD p) (by rfl)
  have c2 := cell_of_heap k4 (i := 2) (v := .int .i64 g) (by rfl)
  unfold devD at c3
  generalize (s.cut nm g).2 = er at *
  clear k3 k4 hok hN h hg hg1
  go_enter Tryz.func54, Tryz.ntmps54
  go_wp2_with (go_at_call 221; refine hP.mono ?_; rintro _ w2 ⟨rfl, hq⟩)
  go_ret
  exact ⟨rfl, hq⟩
end
/-- Repair of what a stop left: the frames of the entries stand, and no more -/
theorem last_repair {n R : Nat} {su : NL} {L : List (List UInt8)} {c : List UInt8} {why : Nat} {N : Nat} (hok : (D1 (segName (n : Int)) R c c su [] [] 0).Ok N) (hN : N + 1 < maxList) (hn : n ≤ 4611686018427387904) (hE : EntOk n L)
    (hc : c.take (encL n L).length = encL n L) (hw : (why = 0 ∧ c = encL n L) ∨ (encL n L).length < c.length) :
    ∃ s' : DSt, s'.text (segName (n : Int)) = some (encL n L) ∧ s'.Ok (N + 1) ∧
      ∀ {F G : Nat → Prop} {w : World} {p : Nat} (_ : One F G w p (D1 (segName (n : Int)) R c c su [] [] 0)) {a : Option Addr} {cc : Nat} (_ : EntsAt w a L), Calls Tryz.prog 24 #[devD p, .agg #[.int .i64 (n : Int), .slice a L.length cc, .int .i64 ((encL n L).length : Int), .int .i64 (c.length : Int), .int .i64 (why : Int)]] w (SegPost F G (fun F G w => One F G w p s') w (ownV n L, 0)) := by
  have hl : L.length ≤ 1000000000 := by have := hE.1; omega
  have hLb : ∀ e ∈ L, e.length ≤ 140737488355328 := fun e he => by have := hE.2.1 e he; omega
  have hlen : (encL n L).length ≤ c.length := by have := congrArg List.length hc; rw [List.length_take] at this; omega
  by_cases hlt : (encL n L).length < c.length
  · have hcut := d1_cut (nm := segName (n : Int)) (R := R) (st := c) (la := c) (su := su) (sp := []) (ws := []) (k := 0) hlen
    rw [hc] at hcut
    refine ⟨((D1 (segName (n : Int)) R c c su [] [] 0).cut (segName (n : Int)) ((encL n L).length : Int)).1, by rw [hcut]; exact d1_text, hok.cut _ _, fun {F G w p} h {a cc} hA => ?_⟩
    have := repair_cut (At := fun F G w => One F G w p (D1 (segName (n : Int)) R c c su [] [] 0)) (At' := fun F G w => One F G w p ((D1 (segName (n : Int)) R c c su [] [] 0).cut (segName (n : Int)) ((encL n L).length : Int)).1) (F := F) (G := G) (w := w) (dt := 45) (dp := p) (f := (n : Int)) (g := ((encL n L).length : Int)) (z := (c.length : Int)) (y := (why : Int)) (a := a) (c := cc) (L := L)
      (Lies.one p _) (Lies.one p _) h (by omega) (by omega) (by omega) (by omega) hl hLb hA (er := (((D1 (segName (n : Int)) R c c su [] [] 0).cut (segName (n : Int)) ((encL n L).length : Int)).2 : Int))
      (fun W b3 b4 e3 es ha k3 k4 => rep1_disk ha hok hN (by rw [segName_len]; decide) (by omega) (by have := hE.1; have := encL_len_le n L hE.2.1; omega) k3 k4)
    rw [hcut] at this ⊢
    rw [if_pos (show ((0 : Nat) : Int) = 0 from rfl)] at this
    exact this
  · have hce : c = encL n L ∧ why = 0 := by
      rcases hw with ⟨h1, h2⟩ | h1
      · exact ⟨h2, h1⟩
      · omega
    obtain ⟨rfl, rfl⟩ := hce
    refine ⟨_, d1_text, hok.mono (by omega), fun {F G w p} h {a cc} hA => ?_⟩
    exact repair_whole (At := fun F G w => One F G w p (D1 (segName (n : Int)) R (encL n L) (encL n L) su [] [] 0)) (dt := 45) (dp := p) (Lies.one p _) h (by omega) (by omega) (by omega) (by omega) hl hLb hA

end Go.Proofs.YtlmdpcaikhdenaaGreat
/- SegmentLasts: entries joined, segments in memory, the law's calls one behind the other. -/
namespace Go.Proofs.YtlmdpcaikhdenaaGreat
open Go.RowKit Go.Maps

/-- the slices of entries, as values -/
def EntVals (w : World) (vs : List Value) (L : List (List UInt8)) : Prop := vs.length = L.length ∧ ∀ (i : Nat) v d, vs[i]? = some v → L[i]? = some d → ∃ ua uc, v = .slice ua d.length uc ∧ RowAt w ua (d.map bv) ∧ d.length ≤ uc ∧ (ua = none → uc = 0)
theorem EntVals.below {w w' : World} {vs : List Value} {L : List (List UInt8)} (h : EntVals w vs L) (hb : Below w.heap.size w w') : EntVals w' vs L :=
  ⟨h.1, fun i v d hv hd => by obtain ⟨ua, uc, e, k1, k2⟩ := h.2 i v d hv hd; exact ⟨ua, uc, e, k1.below hb, k2⟩⟩
theorem EntVals.app {w : World} {vs us : List Value} {L M : List (List UInt8)} (h : EntVals w vs L) (k : EntVals w us M) : EntVals w (vs ++ us) (L ++ M) := by
  refine ⟨by rw [List.length_append, List.length_append, h.1, k.1], fun i v d hv hd => ?_⟩
  by_cases hi : i < L.length
  · rw [List.getElem?_append_left (by rw [h.1]; exact hi)] at hv
    rw [List.getElem?_append_left hi] at hd
    exact h.2 i v d hv hd
  · rw [List.getElem?_append_right (by rw [h.1]; omega), h.1] at hv
    rw [List.getElem?_append_right (by omega)] at hd
    exact k.2 _ v d hv hd
theorem EntVals.at_ {w : World} {a : Option Addr} {vs : List Value} {L : List (List UInt8)} (h : EntVals w vs L) (hr : RowAt w a vs) : EntsAt w a L := fun hL => by
  obtain ⟨b, off, e, hc⟩ := hr (fun e => hL (List.length_eq_zero_iff.1 (by rw [← h.1, e]; rfl)))
  refine ⟨b, off, e, fun i d hd => ?_⟩
  have hi : i < vs.length := by rw [h.1]; exact (List.getElem?_eq_some_iff.1 hd).1
  obtain ⟨ua, uc, e2, k⟩ := h.2 i vs[i] d (by simp) hd
  exact ⟨ua, uc, by rw [hc i vs[i] (by simp), e2], k⟩
theorem EntVals.one {w : World} {vs : List Value} {L : List (List UInt8)} (h : EntVals w vs L) : ∀ u ∈ vs, u.oneCell' = true := fun u hu => by
  obtain ⟨i, hi, rfl⟩ := List.getElem_of_mem hu
  obtain ⟨ua, uc, e, _⟩ := h.2 i vs[i] (L[i]'(by rw [← h.1]; exact hi)) (by simp) (by simp)
  rw [e]; rfl
theorem EntsAt.vals {w : World} {a : Option Addr} {L : List (List UInt8)} (h : EntsAt w a L) : ∃ vs, RowAt w a vs ∧ EntVals w vs L := by
  by_cases hL : L = []
  · subst hL; exact ⟨[], RowAt.nil _ _, rfl, fun i v d hv => by simp at hv⟩
  · obtain ⟨b, off, rfl, hc⟩ := h hL
    refine ⟨(List.range L.length).map (fun i => (w.cell? ⟨b, off + i, none⟩).getD undef), fun _ => ⟨b, off, rfl, fun j u hu => ?_⟩, by simp, fun i v d hv hd => ?_⟩
    · have hj : j < L.length := by have := (List.getElem?_eq_some_iff.1 hu).1; simpa using this
      obtain ⟨ua, uc, h1, _⟩ := hc j _ (List.getElem?_eq_getElem hj)
      simp [hj, h1] at hu
      rw [h1, ← hu]
    · have hi : i < L.length := (List.getElem?_eq_some_iff.1 hd).1
      obtain ⟨ua, uc, h1, h2, h3, h4⟩ := hc i d hd
      simp [hi, h1] at hv
      exact ⟨ua, uc, hv.symm, h2, h3, h4⟩
theorem row_of_block {w : World} {g n : Nat} {cs : Array Value} {e : TypeId} (h : w.heap[g]? = some (.cells cs e (0, 0))) (hn : cs.size = n) (hm : n ≤ maxLen) : w.ownsRow 0 e 1 (.slice (some ⟨g, 0, none⟩) n n) n cs.toList :=
  ⟨by simpa using hn, .inr ⟨g, n, cs, rfl, Nat.zero_le _, h, Nat.le_refl _, hm, by omega, by rw [List.take_of_length_le (by simp; omega)]⟩⟩

/-- a segment in a block of its own, apart from a disk's blocks -/
def SgAt (F G : Nat → Prop) (w : World) (g : Nat) (v : SegV) : Prop := ∃ ea ec, w.heap[g]? = some (.cells (v.cells (.slice ea v.entries.length ec)) 42 (0, 0)) ∧ EntIn (fun b => ¬ F b ∧ ¬ G b) w (.slice ea v.entries.length ec) v.entries ∧ ¬ F g ∧ ¬ G g
theorem SgAt.moved {F G F' G' : Nat → Prop} {w w' : World} {g : Nat} {v : SegV} (h : SgAt F G w g v) (hm : Moved F G F' G' w w') : SgAt F' G' w' g v := by
  obtain ⟨ea, ec, h1, h2, h3, h4⟩ := h
  obtain ⟨m1, m2, m3⟩ := hm
  have hlt := heap_lt h1
  refine ⟨ea, ec, m1.obj h1 h3, h2.lt.kept m1 (fun b hb => hb.1.1) (fun b hb => ⟨fun hf => ?_, fun hg => ?_⟩), fun hf => ?_, fun hg => ?_⟩
  · rcases (m2 b hf).1 with q | q
    · exact hb.1.1 q
    · have := hb.2; omega
  · rcases (m3 b hg).1 with q | q
    · exact hb.1.2 q
    · have := hb.2; omega
  · rcases (m2 g hf).1 with q | q
    · exact h3 q
    · omega
  · rcases (m3 g hg).1 with q | q
    · exact h4 q
    · omega
theorem SgAt.below {F G : Nat → Prop} {w w' : World} {g : Nat} {v : SegV} (h : SgAt F G w g v) (hb : Below w.heap.size w w') : SgAt F G w' g v := by
  obtain ⟨ea, ec, h1, h2, h3, h4⟩ := h
  exact ⟨ea, ec, (hb.block _ (heap_lt h1)).trans h1, h2.below hb, h3, h4⟩
theorem SgAt.ents {F G : Nat → Prop} {w : World} {g : Nat} {v : SegV} (h : SgAt F G w g v) : ∃ ea ec, w.heap[g]? = some (.cells (v.cells (.slice ea v.entries.length ec)) 42 (0, 0)) ∧ EntsAt w ea v.entries := by
  obtain ⟨ea, ec, h1, h2, h3, h4⟩ := h
  obtain ⟨_, _, e, hat⟩ := h2.at_
  cases e
  exact ⟨ea, ec, h1, hat⟩
/-- a segment that a call tells is laid into a block of its own -/
theorem SgAt.new {F G : Nat → Prop} {w1 w2 : World} {lo : Nat} {es : Value} {v : SegV} (hE : EntIn (fun b => lo ≤ b ∧ ¬ F b ∧ ¬ G b) w1 es v.entries) (hw : w1.alloc (.cells (v.cells es) 42) = w2) (hF : ∀ b, F b → b < w1.heap.size) (hG : ∀ b, G b → b < w1.heap.size) : SgAt F G w2 w1.heap.size v ∧ Below w1.heap.size w1 w2 := by
  obtain ⟨ea, ec, rfl⟩ := hE.slice
  have hb : Below w1.heap.size w1 w2 := by rw [← hw]; exact below_alloc _ _
  refine ⟨⟨ea, ec, by rw [← hw]; exact World.alloc_heap_new _ _, (hE.below hb).mono (fun b hb => hb.2), fun h => ?_, fun h => ?_⟩, hb⟩
  · have := hF _ h; omega
  · have := hG _ h; omega
theorem Moved.bel {F G F' G' : Nat → Prop} {w w' : World} {lo : Nat} (h : Moved F G F' G' w w') (hlo : lo ≤ w.heap.size) (hF : ∀ b, F b → lo ≤ b) : Below lo w w' := h.1.belowLo6 hlo hF
theorem bytesL_app (L M : List (List UInt8)) : bytesL (L ++ M) = bytesL L + bytesL M := by
  have h : ∀ (l : List Nat) (n : Nat), l.foldl (· + ·) n = n + l.foldl (· + ·) 0 := by
    intro l
    induction l with
    | nil => intro n; simp
    | cons x r ih => intro n; simp only [List.foldl_cons]; rw [ih (n + x), ih (0 + x)]; omega
  unfold bytesL
  rw [List.map_append, List.foldl_append, h]
theorem not_great2 {L : List (List UInt8)} (h : greatL L = false) : bytesL L ≤ 300000 := by
  unfold greatL at h
  simp only [Bool.or_eq_false_iff, decide_eq_false_iff_not] at h
  omega
/-- the law's calls, from a new disk on -/
theorem lasts_calls {n : Nat} {H M : List (List UInt8)} (hn : n ≤ 4611686018427387904) (hE : EntOk n (H ++ M)) (hH : bytesL H ≤ 300000) (hM : bytesL M ≤ 300000) {names torn : Int} (htorn : torn < 9223372036854775808) {keep : List Bool} (hkeep : keep.length ≤ 1000) :
    ∃ (sB sA sS sN sU sC sR : DSt) (j cl why : Nat), H.length ≤ j ∧ j ≤ (H ++ M).length ∧
      (∀ (F G : Nat → Prop) (w : World) (p : Nat), One F G w p (DSt.empty 1000000) → Calls Tryz.prog 17 #[devD p, .int .i64 (n : Int)] w fun e w' => e = .returned (.int .i64 0) ∧ ∃ F' G', One F' G' w' p sB ∧ Moved F G F' G' w w') ∧
      (∀ (F G : Nat → Prop) (w : World) (p : Nat) (b : Option Addr) (cb : Nat), One F G w p sB → (∀ w', Chg F w w' → EntsAt w' b H) → Calls Tryz.prog 18 #[devD p, .agg #[.int .i64 (n : Int), .slice none 0 0, .int .i64 0, .int .i64 0, .int .i64 0], .slice b H.length cb] w (SegPost F G (fun F G w => One F G w p sA) w (ownV n H, 0))) ∧
      (∀ (F G : Nat → Prop) (w : World) (p : Nat), One F G w p sA → Calls Tryz.prog 19 #[devD p, .int .i64 (n : Int)] w fun e w' => e = .returned (.int .i64 0) ∧ ∃ F' G', One F' G' w' p sS ∧ Moved F G F' G' w w') ∧
      (∀ (F G : Nat → Prop) (w : World) (p : Nat), One F G w p sS → Calls Tryz.prog 20 #[.pointer (some ⟨p, 0, none⟩)] w fun e w' => e = .returned (.int .i64 0) ∧ ∃ F' G', One F' G' w' p sN ∧ Moved F G F' G' w w') ∧
      (∀ (F G : Nat → Prop) (w : World) (p : Nat) (a b : Option Addr) (c cb : Nat), One F G w p sN → EntsAt w a H → (∀ w', Chg F w w' → EntsAt w' b M) → Calls Tryz.prog 18 #[devD p, .agg #[.int .i64 (n : Int), .slice a H.length c, .int .i64 ((encL n H).length : Int), .int .i64 ((encL n H).length : Int), .int .i64 0], .slice b M.length cb] w (SegPost F G (fun F G w => One F G w p sU) w (ownV n (H ++ M), 0))) ∧
      (∀ (F G : Nat → Prop) (w : World) (p : Nat), One F G w p sU → Calls Tryz.prog 21 #[devD p, .int .i64 (n : Int)] w (ScanPost w (ownV n (H ++ M), 0))) ∧
      (∀ (F G : Nat → Prop) (w : World) (p : Nat) (ka : Option Addr) (kc : Nat), One F G w p sU → RowAt w ka (keep.map Value.bool) → Calls Tryz.prog 23 #[.pointer (some ⟨p, 0, none⟩), .agg #[.int .i64 names, .slice ka keep.length kc, .int .i64 torn]] w fun e w' => ∃ po F' G', e = .returned (.pointer (some ⟨po, 0, none⟩)) ∧ One F' G' w' po sC ∧ (∀ b, F' b → w.heap.size ≤ b) ∧ Below w.heap.size w w') ∧
      (∀ (F G : Nat → Prop) (w : World) (p : Nat), One F G w p sC → Calls Tryz.prog 21 #[devD p, .int .i64 (n : Int)] w (ScanPost w (⟨(n : Int), (H ++ M).take j, ((encL n ((H ++ M).take j)).length : Int), (cl : Int), (why : Int)⟩, 0))) ∧
      (∀ (F G : Nat → Prop) (w : World) (p : Nat) (a : Option Addr) (c : Nat), One F G w p sC → EntsAt w a ((H ++ M).take j) → Calls Tryz.prog 24 #[devD p, .agg #[.int .i64 (n : Int), .slice a ((H ++ M).take j).length c, .int .i64 ((encL n ((H ++ M).take j)).length : Int), .int .i64 (cl : Int), .int .i64 (why : Int)]] w (SegPost F G (fun F G w => One F G w p sR) w (ownV n ((H ++ M).take j), 0))) ∧
      (∀ (F G : Nat → Prop) (w : World) (p : Nat), One F G w p sR → Calls Tryz.prog 21 #[devD p, .int .i64 (n : Int)] w (ScanPost w (ownV n ((H ++ M).take j), 0))) := by
  have hlen : (encL n (H ++ M)).length ≤ 1000000 := by
    rw [encL_bytes, bytesL_app]
    have := hE.1
    omega
  have hE1 : EntOk n ([] ++ H) := by rw [List.nil_append]; exact hE.left
  have hlenH : (encL n ([] ++ H)).length ≤ 1000000 := by rw [encL_app, List.length_append] at hlen; rw [List.nil_append]; omega
  have hmx : maxList = 4194304 := rfl
  have ok0 : (DSt.empty 1000000).Ok 0 := DSt.Ok.empty (by decide) 0
  have hcr := d1_create (nm := segName (n : Int)) 1000000 (segName_ok _)
  have ok1 : (D1 (segName (n : Int)) 1000000 (encL n []) [] [] [.create (segName (n : Int)) 0] [] 1).Ok 1 := by
    have := ok0.create (segName (n : Int)); rw [hcr] at this; exact this
  obtain ⟨ws1, k1, hws1, ok2, c2⟩ := last_append (L := []) (M := H) rfl ok1 (by omega) hn hE1 hlenH (by decide)
  rw [List.nil_append] at ok2 c2
  have hws : ∀ x ∈ ws1, x.file = 0 := fun x hx => by
    rw [hws1] at hx
    split at hx
    · cases hx
    · simp at hx; rw [hx]
  have hsy := d1_sync (nm := segName (n : Int)) (R := 1000000) (k := k1) (st := encL n H) (la := []) (su := []) (sp := [.create (segName (n : Int)) 0]) hws
  have ok3 := ok2.sync (segName (n : Int))
  have hsn := d1_syncNames (nm := segName (n : Int)) (R := 1000000) (k := k1 + 1) (st := encL n H) (la := encL n H) (su := []) (sp := [.create (segName (n : Int)) 0]) (ws := [])
  rw [hsy] at ok3
  have ok4 := ok3.syncNames
  rw [hsn] at ok4
  obtain ⟨ws2, k2, hws2, ok5, c5⟩ := last_append (L := H) (M := M) rfl ok4 (by omega) hn hE hlen (by decide)
  obtain ⟨m, hm, hst⟩ : ∃ m, m ≤ (encL (n + H.length) M).length ∧ (D1 (segName (n : Int)) 1000000 (encL n (H ++ M)) (encL n H) [(segName (n : Int), 0)] [] ws2 k2).stop names keep torn = D1 (segName (n : Int)) 1000000 (encL n H ++ (encL (n + H.length) M).take m) (encL n H ++ (encL (n + H.length) M).take m) [(segName (n : Int), 0)] [] [] 0 := by
    by_cases hM0 : M = []
    · rw [if_pos hM0] at hws2
      subst hws2
      exact ⟨0, Nat.zero_le _, by rw [d1_stop0]; simp⟩
    · rw [if_neg hM0] at hws2
      subst hws2
      exact d1_stop1 _ _ _ _
  have ok6 := ok5.stop names keep torn
  rw [hst] at ok6
  obtain ⟨j, why, hj1, hj2, hsv, hw, hck, hEj⟩ := last_left hE hm
  obtain ⟨sR, htR, ok7, c9⟩ := last_repair (c := encL n H ++ (encL (n + H.length) M).take m) ok6 (by omega) hn hEj hck (hw.imp id (fun h => h.2))
  refine ⟨D1 (segName (n : Int)) 1000000 (encL n []) [] [] [.create (segName (n : Int)) 0] [] 1, D1 (segName (n : Int)) 1000000 (encL n H) [] [] [.create (segName (n : Int)) 0] ws1 k1, D1 (segName (n : Int)) 1000000 (encL n H) (encL n H) [] [.create (segName (n : Int)) 0] [] (k1 + 1), D1 (segName (n : Int)) 1000000 (encL n H) (encL n H) [(segName (n : Int), 0)] [] [] (k1 + 1 + 1), D1 (segName (n : Int)) 1000000 (encL n (H ++ M)) (encL n H) [(segName (n : Int), 0)] [] ws2 k2, D1 (segName (n : Int)) 1000000 (encL n H ++ (encL (n + H.length) M).take m) (encL n H ++ (encL (n + H.length) M).take m) [(segName (n : Int), 0)] [] [] 0, sR, j, (encL n H ++ (encL (n + H.length) M).take m).length, why, hj1, hj2, ?_, ?_, ?_, ?_, ?_, ?_, ?_, ?_, ?_, ?_⟩
  · intro F G w p h
    have := begin_any h (f := (n : Int)) (by omega) (by omega) ok0 (by omega)
    rw [hcr] at this
    exact this
  · intro F G w p b cb h hb
    exact c2 h (a := none) (c := 0) (EntsAt.nil _ _) hb
  · intro F G w p h
    have := ssync_disk_any h (x := (n : Int)) (by omega) (by omega) ok2 (by omega)
    rw [hsy] at this
    exact this
  · intro F G w p h
    have := h.syncNames ok3 (by omega)
    rw [hsn] at this
    exact this
  · intro F G w p a b c cb h ha hb
    exact c5 h ha hb
  · intro F G w p h
    have := last_scan h ok5 (by omega) hn d1_text
    rw [ownV_of hE] at this
    exact this
  · intro F G w p ka kc h hk
    have := h.stop (names := names) htorn (kc := kc) hk (by have : maxLen = 9223372036854775807 := rfl; omega) ok5 (by omega)
    rw [hst] at this
    exact this
  · intro F G w p h
    have := last_scan h ok6 (by omega) hn d1_text
    rw [hsv] at this
    exact this
  · intro F G w p a c h ha
    exact c9 h ha
  · intro F G w p h
    have := last_scan h ok7 (by omega) hn htR
    rw [ownV_of hEj] at this
    exact this

end Go.Proofs.YtlmdpcaikhdenaaGreat
/- SegmentLasts: the disk between the law's calls; what the calls tell, written out. -/
namespace Go.Proofs.YtlmdpcaikhdenaaGreat
open Go.RowKit Go.Maps

/-- a disk that came behind a world -/
def LsAt (w0 w : World) (F G : Nat → Prop) (p : Nat) (s : DSt) : Prop := One F G w p s ∧ Below w0.heap.size w0 w ∧ ∀ b, F b → w0.heap.size ≤ b
theorem LsAt.moved {w0 w w' : World} {F G F' G' : Nat → Prop} {p : Nat} {s s' : DSt} (h : LsAt w0 w F G p s) (ho : One F' G' w' p s') (hm : Moved F G F' G' w w') : LsAt w0 w' F' G' p s' :=
  ⟨ho, h.2.1.trans (hm.bel h.2.1.size h.2.2), fun b hb => by
    rcases (hm.2.1 b hb).1 with q | q
    · exact h.2.2 b q
    · have := h.2.1.size; omega⟩
theorem LsAt.below {w0 w w' : World} {F G : Nat → Prop} {p : Nat} {s : DSt} (h : LsAt w0 w F G p s) (hb : Below w.heap.size w w') : LsAt w0 w' F G p s :=
  ⟨h.1.below hb, h.2.1.trans (hb.mono h.2.1.size), h.2.2⟩
theorem LsAt.lent {w0 w : World} {F G : Nat → Prop} {p : Nat} {s : DSt} (h : LsAt w0 w F G p s) {a : Option Addr} {L : List (List UInt8)} (hA : EntsAt w0 a L) : ∀ w', Chg F w w' → EntsAt w' a L :=
  fun _ hc => hA.below (h.2.1.trans (hc.belowLo6 h.2.1.size h.2.2))
/-- what Append, Repair, Scan tell, written out -/
def SegLit (F G : Nat → Prop) (w : World) (p : Nat) (s' : DSt) (f g z y : Int) (L : List (List UInt8)) (e : Ending) (w' : World) : Prop :=
  ∃ ea ec F' G', e = .returned (.tuple #[.agg #[.int .i64 f, .slice ea L.length ec, .int .i64 g, .int .i64 z, .int .i64 y], .int .i64 0]) ∧ EntIn (fun b => w.heap.size ≤ b ∧ ¬ F' b ∧ ¬ G' b) w' (.slice ea L.length ec) L ∧ One F' G' w' p s' ∧ Moved F G F' G' w w'
theorem SegPost.lit {F G : Nat → Prop} {w w' : World} {p : Nat} {s' : DSt} {f g z y : Int} {L : List (List UInt8)} {e : Ending} (h : SegPost F G (fun F G w => One F G w p s') w (⟨f, L, g, z, y⟩, 0) e w') : SegLit F G w p s' f g z y L e w' := by
  obtain ⟨es, F', G', h1, h2, h3, h4⟩ := h
  obtain ⟨ea, ec, rfl⟩ := h2.slice
  exact ⟨ea, ec, F', G', h1, h2, h3, h4⟩
theorem ScanPost.lit {F G : Nat → Prop} {w w' : World} {p : Nat} {s : DSt} (ho : One F G w p s) {f g z y : Int} {L : List (List UInt8)} {e : Ending} (h : ScanPost w (⟨f, L, g, z, y⟩, 0) e w') : SegLit F G w p s f g z y L e w' := by
  obtain ⟨es, h1, h2, h3⟩ := h
  exact SegPost.lit (SegPost.of_scan (At := fun F G w => One F G w p s) (Lies.one p s) (r := (⟨f, L, g, z, y⟩, 0)) ho h1 h2 h3)
/-- what was told, in a block of its own -/
theorem SegLit.new {w0 w w1 w2 : World} {F G F' G' : Nat → Prop} {p : Nat} {s s' : DSt} (hX : LsAt w0 w F G p s) {f g z y : Int} {ea : Option Addr} {ec : Nat} {L : List (List UInt8)} (hE : EntIn (fun b => w.heap.size ≤ b ∧ ¬ F' b ∧ ¬ G' b) w1 (.slice ea L.length ec) L) (ho : One F' G' w1 p s') (hm : Moved F G F' G' w w1)
    (hw : w1.alloc (.cells #[.int .i64 f, .slice ea L.length ec, .int .i64 g, .int .i64 z, .int .i64 y] 42) = w2) : SgAt F' G' w2 w1.heap.size ⟨f, L, g, z, y⟩ ∧ Below w1.heap.size w1 w2 ∧ LsAt w0 w2 F' G' p s' := by
  have hl := ho.lt
  obtain ⟨h1, h2⟩ := SgAt.new (v := ⟨f, L, g, z, y⟩) hE hw hl.1 hl.2.1
  exact ⟨h1, h2, (hX.moved ho hm).below h2⟩
/-- its cells, as they are loaded -/
theorem SgAt.cells {F G : Nat → Prop} {w : World} {q : Nat} {f g z y : Int} {L : List (List UInt8)} (h : SgAt F G w q ⟨f, L, g, z, y⟩) : ∃ ea ec, EntsAt w ea L ∧ w.cell? ⟨q, 0, none⟩ = some (.int .i64 f) ∧ w.cell? ⟨q, 1, none⟩ = some (.slice ea L.length ec) ∧ w.cell? ⟨q, 2, none⟩ = some (.int .i64 g) ∧ w.cell? ⟨q, 3, none⟩ = some (.int .i64 z) ∧ w.cell? ⟨q, 4, none⟩ = some (.int .i64 y) := by
  obtain ⟨ea, ec, h1, h2⟩ := h.ents
  exact ⟨ea, ec, h2, cell_of_heap h1 (by rfl), cell_of_heap h1 (by rfl), cell_of_heap h1 (by rfl), cell_of_heap h1 (by rfl), cell_of_heap h1 (by rfl)⟩
theorem SgAt.cap {F G : Nat → Prop} {w : World} {q : Nat} {f g z y : Int} {L : List (List UInt8)} {ea : Option Addr} {ec : Nat} (h : SgAt F G w q ⟨f, L, g, z, y⟩) (hc : w.cell? ⟨q, 1, none⟩ = some (.slice ea L.length ec)) : L.length ≤ ec := by
  obtain ⟨ea', ec', h1, ⟨vs, h2, _⟩, _⟩ := h
  have h3 := cell_of_heap h1 (i := 1) (v := .slice ea' L.length ec') (by rfl)
  rw [hc] at h3
  cases h3
  exact ownsRow_len_cap h2
theorem lasts_new (w : World) : Calls Tryz.prog 16 #[.int .i64 1000000] w fun e w' => ∃ p F G, e = .returned (.tuple #[.pointer (some ⟨p, 0, none⟩), .int .i64 0]) ∧ LsAt w w' F G p (DSt.empty 1000000) :=
  (new_any (cap := 1000000) (by decide) w).mono fun e w' ⟨p, own, k1, k2, k3, k4⟩ => by
    obtain ⟨F, G, h1, h2, h3⟩ := One.of (w := w) k2 k3 (fun b hb => hb.1)
    exact ⟨p, F, G, k1, h1, k4, fun b hb => (h2 b hb).1⟩
theorem lasts_same {w : World} {a b : Option Addr} {c d : Nat} {L : List (List UInt8)} {f g z y : Int} (h1 : EntsAt w a L) (h2 : EntsAt w b L) (hl : L.length ≤ 1000000000) :
    Calls Tryz.prog 22 #[.agg #[.int .i64 f, .slice a L.length c, .int .i64 g, .int .i64 z, .int .i64 y], .agg #[.int .i64 f, .slice b L.length d, .int .i64 g, .int .i64 z, .int .i64 y]] w fun e w' => e = .returned (.bool true) ∧ Below w.heap.size w w' := by
  have h := rsegSame_any (w := w) (c := c) (d := d) (f1 := f) (g1 := g) (z1 := z) (y1 := y) (f2 := f) (g2 := g) (z2 := z) (y2 := y) h1 h2 (by unfold maxLen; omega)
  rw [show (f == f && g == g && z == z && y == y && L == L) = true from by simp] at h
  exact h
/-- what the law's calls do, as the walk meets them -/
structure LastsCalls (n : Nat) (H M LA LL : List (List UInt8)) (eH eA eL cl : Nat) (why names torn : Int) (keep : List Bool) (sB sA sS sN sU sC sR : DSt) : Prop where
  begin_ : ∀ (F G : Nat → Prop) (w : World) (p : Nat), One F G w p (DSt.empty 1000000) → Calls Tryz.prog 17 #[devD p, .int .i64 (n : Int)] w fun e w' => e = .returned (.int .i64 0) ∧ ∃ F' G', One F' G' w' p sB ∧ Moved F G F' G' w w'
  app1 : ∀ (F G : Nat → Prop) (w : World) (p : Nat) (b : Option Addr) (cb : Nat), One F G w p sB → (∀ w', Chg F w w' → EntsAt w' b H) → Calls Tryz.prog 18 #[devD p, .agg #[.int .i64 (n : Int), .slice none 0 0, .int .i64 0, .int .i64 0, .int .i64 0], .slice b H.length cb] w (SegLit F G w p sA (n : Int) (eH : Int) (eH : Int) 0 H)
  sync : ∀ (F G : Nat → Prop) (w : World) (p : Nat), One F G w p sA → Calls Tryz.prog 19 #[devD p, .int .i64 (n : Int)] w fun e w' => e = .returned (.int .i64 0) ∧ ∃ F' G', One F' G' w' p sS ∧ Moved F G F' G' w w'
  syncNames : ∀ (F G : Nat → Prop) (w : World) (p : Nat), One F G w p sS → Calls Tryz.prog 20 #[.pointer (some ⟨p, 0, none⟩)] w fun e w' => e = .returned (.int .i64 0) ∧ ∃ F' G', One F' G' w' p sN ∧ Moved F G F' G' w w'
  app2 : ∀ (F G : Nat → Prop) (w : World) (p : Nat) (a b : Option Addr) (c cb : Nat), One F G w p sN → EntsAt w a H → (∀ w', Chg F w w' → EntsAt w' b M) → Calls Tryz.prog 18 #[devD p, .agg #[.int .i64 (n : Int), .slice a H.length c, .int .i64 (eH : Int), .int .i64 (eH : Int), .int .i64 0], .slice b M.length cb] w (SegLit F G w p sU (n : Int) (eA : Int) (eA : Int) 0 LA)
  scan1 : ∀ (F G : Nat → Prop) (w : World) (p : Nat), One F G w p sU → Calls Tryz.prog 21 #[devD p, .int .i64 (n : Int)] w (SegLit F G w p sU (n : Int) (eA : Int) (eA : Int) 0 LA)
  stop : ∀ (F G : Nat → Prop) (w : World) (p : Nat) (ka : Option Addr) (kc : Nat), One F G w p sU → RowAt w ka (keep.map Value.bool) → Calls Tryz.prog 23 #[.pointer (some ⟨p, 0, none⟩), .agg #[.int .i64 names, .slice ka keep.length kc, .int .i64 torn]] w fun e w' => ∃ po F' G', e = .returned (.pointer (some ⟨po, 0, none⟩)) ∧ LsAt w w' F' G' po sC
  scan2 : ∀ (F G : Nat → Prop) (w : World) (p : Nat), One F G w p sC → Calls Tryz.prog 21 #[devD p, .int .i64 (n : Int)] w (SegLit F G w p sC (n : Int) (eL : Int) (cl : Int) why LL)
  rep : ∀ (F G : Nat → Prop) (w : World) (p : Nat) (a : Option Addr) (c : Nat), One F G w p sC → EntsAt w a LL → Calls Tryz.prog 24 #[devD p, .agg #[.int .i64 (n : Int), .slice a LL.length c, .int .i64 (eL : Int), .int .i64 (cl : Int), .int .i64 why]] w (SegLit F G w p sR (n : Int) (eL : Int) (eL : Int) 0 LL)
  scan3 : ∀ (F G : Nat → Prop) (w : World) (p : Nat), One F G w p sR → Calls Tryz.prog 21 #[devD p, .int .i64 (n : Int)] w (SegLit F G w p sR (n : Int) (eL : Int) (eL : Int) 0 LL)
theorem lasts_calls2 {n : Nat} {H M : List (List UInt8)} (hn : n ≤ 4611686018427387904) (hE : EntOk n (H ++ M)) (hH : bytesL H ≤ 300000) (hM : bytesL M ≤ 300000) {names torn : Int} (htorn : torn < 9223372036854775808) {keep : List Bool} (hkeep : keep.length ≤ 1000) :
    ∃ (LL : List (List UInt8)) (eH eA eL cl : Nat) (why : Int) (sB sA sS sN sU sC sR : DSt), eA = (encL n (H ++ M)).length ∧ H.length ≤ LL.length ∧ LL.length ≤ (H ++ M).length ∧ LL = (H ++ M).take LL.length ∧ LastsCalls n H M (H ++ M) LL eH eA eL cl why names torn keep sB sA sS sN sU sC sR := by
  obtain ⟨sB, sA, sS, sN, sU, sC, sR, j, cl, why, hj1, hj2, c1, c2, c3, c4, c5, c6, c7, c8, c9, c10⟩ := lasts_calls hn hE hH hM htorn hkeep (names := names)
  have hl : ((H ++ M).take j).length = j := by rw [List.length_take]; omega
  refine ⟨(H ++ M).take j, (encL n H).length, (encL n (H ++ M)).length, (encL n ((H ++ M).take j)).length, cl, (why : Int), sB, sA, sS, sN, sU, sC, sR, rfl, by omega, by omega, by rw [hl], ⟨c1, ?_, c3, c4, ?_, ?_, ?_, ?_, ?_, ?_⟩⟩
  · exact fun F G w p b cb h hb => (c2 F G w p b cb h hb).mono fun _ _ q => SegPost.lit q
  · exact fun F G w p a b c cb h ha hb => (c5 F G w p a b c cb h ha hb).mono fun _ _ q => SegPost.lit q
  · exact fun F G w p h => (c6 F G w p h).mono fun _ _ q => ScanPost.lit h q
  · exact fun F G w p ka kc h hk => (c7 F G w p ka kc h hk).mono fun _ _ ⟨po, F', G', q1, q2, q3, q4⟩ => ⟨po, F', G', q1, q2, q4, q3⟩
  · exact fun F G w p h => (c8 F G w p h).mono fun _ _ q => ScanPost.lit h q
  · exact fun F G w p a c h ha => (c9 F G w p a c h ha).mono fun _ _ q => SegPost.lit q
  · exact fun F G w p h => (c10 F G w p h).mono fun _ _ q => ScanPost.lit h q

end Go.Proofs.YtlmdpcaikhdenaaGreat
