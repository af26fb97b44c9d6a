/- Texts of this claim, one behind the other: Sho, Shp, Shq, Opb, Opn, Ope. -/
import Derived.Test.YtlmdpcaikhdenaaGreatSe33
import Derived.Test.YtlmdpcaikhdenaaGreatSe34
import Derived.Test.YtlmdpcaikhdenaaGreatSe19
import Derived.Test.YtlmdpcaikhdenaaGreatSe20
import Derived.Deep.SlicePairs
import Derived.Deep.Grids
import Derived.Test.YtlmdpcaikhdenaaGreatSe26
import Derived.Test.YtlmdpcaikhdenaaGreatBulk
set_option linter.unusedSimpArgs false
set_option linter.unusedVariables false
/- Segment: Append over the disk; the law's works. -/
namespace Go.Proofs.YtlmdpcaikhdenaaGreat
open Go.RowKit Go.Maps

theorem hexB_ok {x : Nat} (h : x < 16) : ChOk (hexB x) := by
  unfold ChOk
  rcases lt16 h with rfl | rfl | rfl | rfl | rfl | rfl | rfl | rfl | rfl | rfl | rfl | rfl | rfl | rfl | rfl | rfl <;> decide
theorem nameL_ok {c : UInt8} (hc : ChOk c) (n : Nat) : NameOk (nameL c n 16) := by
  refine ⟨by rw [nameL_len]; omega, by rw [nameL_len]; omega, fun x hx => ?_⟩
  unfold nameL at hx
  rcases List.mem_cons.1 hx with rfl | hx
  · exact hc
  · obtain ⟨j, _, rfl⟩ := List.mem_map.1 hx
    exact hexB_ok (nib_lt _ _)
theorem segName_ok (f : Int) : nameOk (segName f) = true := (nameOk_true (nameL_ok (by unfold ChOk; decide) _)).symm
section
variable {F G : Nat → Prop} {w : World} {p : Nat} {s : DSt} {N : Nat}
theorem append1_disk (h : One F G w p s) (hok : s.Ok N) (hN : N + 1 < maxList) {nm : List UInt8} (hnm : nm.length ≤ maxLen) {b3 b4 b9 : Nat} {e3 e9 : TypeId} {f g z y : Int} (hg : 0 ≤ g) (hg1 : g ≤ 1099511627776) {es : Value} {ua : Option Addr} {uc : Nat} {en : List UInt8} (hen : en.length ≤ 140737488355328)
    (k3 : w.heap[b3]? = some (.cells #[devD p] e3 (0, 0))) (k4 : w.heap[b4]? = some (.cells #[.int .i64 f, es, .int .i64 g, .int .i64 z, .int .i64 y] 42 (0, 0))) (k9 : w.heap[b9]? = some (.cells #[.slice ua en.length uc] e9 (0, 0))) (kr : RowAt w ua (en.map bv)) (kn : ua = none → uc = 0) :
    Calls Tryz.prog 47 #[.string ⟨nm.toArray⟩, .pointer (some ⟨b3, 0, none⟩), .pointer (some ⟨b4, 0, none⟩), .pointer (some ⟨b9, 0, none⟩)] w fun e w' => e = .returned (.int .i64 ((s.put nm g en).2 : Int)) ∧ ∃ F' G', One F' G' w' p (s.put nm g en).1 ∧ Moved F G F' G' w w' := by
  have hP := h.put hnm (at_ := g) (xc := uc) kr kn hen (by omega) hok hN
  have c3 := cell_of_heap k3 (i := 0) (v := devD p) (by rfl)
  have c2 := cell_of_heap k4 (i := 2) (v := .int .i64 g) (by rfl)
  have c9 := cell_of_heap k9 (i := 0) (v := .slice ua en.length uc) (by rfl)
  unfold devD at c3
  generalize (s.put nm g en).2 = er at *
  clear k3 k4 k9 kr kn hen hok hN h hg hg1
  go_enter Tryz.func47, Tryz.ntmps47
  go_wp2_with (go_at_call 226; refine hP.mono ?_; rintro _ w2 ⟨rfl, hq⟩)
  go_ret
  exact ⟨rfl, hq⟩
/-- Append over the disk -/
theorem append_disk (h : One F G w p s) (hok : s.Ok N) (hN : N + 1 < maxList) {f g z y : Int} {a b : Option Addr} {c cb : Nat} {L M : List (List UInt8)} (hg : 0 ≤ g) (hg1 : g ≤ 1099511627776) (hLb : ∀ e ∈ L, e.length ≤ 140737488355328) (hA : EntsAt w a L) (hM : ∀ w', Chg F w w' → EntsAt w' b M) (hM0 : M ≠ []) (hf : fitsE f L.length M = 0) :
    Calls Tryz.prog 18 #[devD p, .agg #[.int .i64 f, .slice a L.length c, .int .i64 g, .int .i64 z, .int .i64 y], .slice b M.length cb] w
      (SegPost F G (fun F G w => One F G w p (s.put (segName f) g (encL (f.toNat + L.length) M)).1) w (if ((s.put (segName f) g (encL (f.toNat + L.length) M)).2 : Int) = 0 then SegV.behind ⟨f, L, g, z, y⟩ M ((encL (f.toNat + L.length) M).length : Int) else SegV.none, ((s.put (segName f) g (encL (f.toNat + L.length) M)).2 : Int))) := by
  obtain ⟨_, _, _, f3, f4⟩ := fits_ok hf
  have hen := encL_len_le (f.toNat + L.length) M f4
  exact append_go (At := fun F G w => One F G w p s) (At' := fun F G w => One F G w p (s.put (segName f) g (encL (f.toNat + L.length) M)).1) (Lies.one p s) (Lies.one p _) h hg (fun _ => hg1) hLb hA hM hM0 hf
    (fun W b3 b4 b9 e3 e9 es ua uc ha k3 k4 k9 kr kn _ => append1_disk ha hok hN (by rw [segName_len]; decide) hg hg1 (by omega) k3 k4 k9 kr kn)
end

/-! ### works -/
def wkM : List (List UInt8) := [[1, 2], []]
noncomputable def wk1 : DSt := ((DSt.empty 1000).create (segName 5)).1
noncomputable def wk2 : DSt := (wk1.put (segName 5) 0 (encL 5 wkM)).1
theorem wk_create : (DSt.empty 1000).create (segName 5) = (({ DSt.empty 1000 with files := [([], [])] } : DSt).step (.create (segName 5) 0), 0) := by
  have h : (DSt.empty 1000).names = [] := rfl
  unfold DSt.create
  rw [segName_ok, h]
  rfl
theorem wk1_eq : wk1 = ({ DSt.empty 1000 with files := [([], [])] } : DSt).step (.create (segName 5) 0) := by unfold wk1; rw [wk_create]
theorem wk_en : (encL 5 wkM).length = 40 := by decide
theorem wk_seg : (segL 5 (encL 5 wkM)).entries = wkM ∧ (segL 5 (encL 5 wkM)).good = 40 ∧ (segL 5 (encL 5 wkM)).why = 0 := by decide +kernel
theorem wk_find : nlFind wk1.names (segName 5) = some 0 := by
  rw [wk1_eq]
  show nlFind (nlPut [] (segName 5) 0) (segName 5) = some 0
  simp [nlPut, nlDel, nlIns, nlFind]
theorem wk_st : wk1.stands 0 = [] := by rw [wk1_eq]; rfl
theorem wk_used : wk1.used = 0 := by
  unfold DSt.used usedOf
  have hn : wk1.names = [(segName 5, 0)] := by rw [wk1_eq]; show nlPut [] (segName 5) 0 = _; simp [nlPut, nlDel, nlIns]
  rw [hn]
  simp [wk_st]
theorem wk_put : wk1.put (segName 5) 0 (encL 5 wkM) = (wk1.write ⟨0, false, 0, encL 5 wkM⟩, 0) := by
  unfold DSt.put
  rw [wk_find]
  have hr : wk1.room = 1000 := by rw [wk1_eq]; rfl
  simp only [wk_st, wk_used, wk_en, hr]
  rw [if_neg (by simp), if_neg (by simp)]
  rfl
theorem wk_text : wk2.text (segName 5) = some (encL 5 wkM) := by
  have h2 : wk2 = wk1.write ⟨0, false, 0, encL 5 wkM⟩ := by unfold wk2; rw [wk_put]
  have hn : wk2.names = wk1.names := by rw [h2]; rfl
  unfold DSt.text
  rw [hn, wk_find, h2]
  show some ((wk1.write ⟨0, false, 0, encL 5 wkM⟩).stands 0) = _
  have : (wk1.write ⟨0, false, 0, encL 5 wkM⟩).stands 0 = laid (wk1.stands 0) ⟨0, false, 0, encL 5 wkM⟩ (encL 5 wkM).length := by
    unfold DSt.write DSt.stands
    rw [wk1_eq]
    rfl
  rw [this, wk_st]
  unfold laid
  rw [if_neg (by simp), if_neg (by rw [wk_en]; omega)]
  simp
theorem wk_scan : scanD wk2 5 = (⟨5, wkM, 40, 40, 0⟩, 0) := by
  unfold scanD
  rw [if_neg (by omega)]
  unfold scanN
  rw [show (5 : Int).toNat = 5 from rfl, wk_text]
  show (SegV.of 5 (encL 5 wkM), 0) = _
  unfold SegV.of
  rw [wk_seg.1, wk_seg.2.1, wk_seg.2.2, wk_en]
  rfl
theorem wk_ok0 : (DSt.empty 1000).Ok 0 := DSt.Ok.empty (by decide) 0
theorem wk_ok1 : wk1.Ok 1 := wk_ok0.create (segName 5)
theorem wk_ok2 : wk2.Ok 2 := wk_ok1.put (segName 5) 0 _
theorem wk_behind : SegV.behind ⟨5, [], 0, 0, 0⟩ wkM ((encL 5 wkM).length : Int) = ⟨5, wkM, 40, 40, 0⟩ := by rw [wk_en]; rfl
theorem EntIn.off {R O : Nat → Prop} {w w' : World} {v : Value} {L : List (List UInt8)} (h : EntIn R w v L) (hc : Chg O w w') (hO : ∀ b, R b → ¬ O b) : EntIn R w' v L := h.kept hc hO (fun _ h => h)
section
variable {w : World}
theorem wk_new (w : World) : Calls Tryz.prog 16 #[.int .i64 1000] w fun e w' => ∃ p F G, e = .returned (.tuple #[.pointer (some ⟨p, 0, none⟩), .int .i64 0]) ∧ One F G w' p (DSt.empty 1000) ∧ (∀ b, F b ∨ G b → w.heap.size ≤ b) ∧ Below w.heap.size w w' :=
  (new_any (cap := 1000) (by decide) w).mono fun e w' ⟨p, own, k1, k2, k3, k4⟩ => by
    obtain ⟨F, G, h1, h2, h3⟩ := One.of (w := w) k2 k3 (fun b hb => hb.1)
    exact ⟨p, F, G, k1, h1, fun b hb => hb.elim (fun h => (h2 b h).1) (fun h => (h3 b h).1), k4⟩
theorem wk_begin {F G : Nat → Prop} {p : Nat} (h : One F G w p (DSt.empty 1000)) : Calls Tryz.prog 17 #[devD p, .int .i64 5] w fun e w' => e = .returned (.int .i64 0) ∧ ∃ F' G', One F' G' w' p wk1 ∧ Moved F G F' G' w w' := by
  have := begin_any h (f := 5) (by omega) (by omega) wk_ok0 (by decide)
  rw [wk_create] at this
  rw [wk1_eq]
  exact this
theorem wk_append {F G : Nat → Prop} {p : Nat} (h : One F G w p wk1) {b : Option Addr} {cb : Nat} (hM : ∀ w', Chg F w w' → EntsAt w' b wkM) : Calls Tryz.prog 18 #[devD p, .agg #[.int .i64 5, .slice none 0 0, .int .i64 0, .int .i64 0, .int .i64 0], .slice b 2 cb] w (SegPost F G (fun F G w => One F G w p wk2) w (⟨5, wkM, 40, 40, 0⟩, 0)) := by
  have hr : (wk1.put (segName 5) 0 (encL ((5 : Int).toNat + ([] : List (List UInt8)).length) wkM)).2 = 0 := by
    show (wk1.put (segName 5) 0 (encL 5 wkM)).2 = 0
    rw [wk_put]
  have := append_disk h wk_ok1 (by decide) (f := 5) (g := 0) (z := 0) (y := 0) (a := none) (c := 0) (cb := cb) (L := []) (M := wkM) (by omega) (by omega) (fun e he => by cases he) (EntsAt.nil _ _) hM (by decide) (by decide)
  rw [hr] at this
  rw [if_pos (show ((0 : Nat) : Int) = 0 from rfl)] at this
  have e : SegV.behind ⟨5, [], 0, 0, 0⟩ wkM ((encL ((5 : Int).toNat + ([] : List (List UInt8)).length) wkM).length : Int) = ⟨5, wkM, 40, 40, 0⟩ := wk_behind
  rw [e] at this
  exact this
theorem wk_scan_any {F G : Nat → Prop} {p : Nat} (h : One F G w p wk2) : Calls Tryz.prog 21 #[devD p, .int .i64 5] w (ScanPost w (⟨5, wkM, 40, 40, 0⟩, 0)) := by
  have := scan_any h wk_ok2 (by decide) (f := 5) (by omega)
  rw [wk_scan] at this
  exact this
theorem wk_read {F G : Nat → Prop} {p : Nat} (h : One F G w p wk2) : Calls Tryz.prog 35 #[devD p, .int .i64 5, .int .i64 5] w (ReadPost17 w ([1, 2], 0)) := by
  have := segread_any (w := w) (dt := 45) (dp := p) (f := 5) (n := 5) (L := wkM) (g := 40) (z := 40) (y := 0) (by omega) (by omega) (by omega) (fun W hW => wk_scan_any (h.below hW)) (by decide) (by decide)
  have e : readE17 5 5 (⟨5, wkM, 40, 40, 0⟩, 0) = ([1, 2], 0) := by decide
  rw [e] at this
  exact this
end
theorem wk_ents {w : World} {g : Nat} (ha : w.heap[g]? = some (.cells #[.int .u8 1, .int .u8 2] 5 (0, 0))) (hb : w.heap[g + 1]? = some (.cells #[.slice (some ⟨g, 0, none⟩) 2 2, .slice none 0 0] 26 (0, 0))) : EntsAt w (some ⟨g + 1, 0, none⟩) wkM := fun _ => by
  refine ⟨g + 1, 0, rfl, fun i d hd => ?_⟩
  match i with
  | 0 =>
    obtain rfl : [1, 2] = d := by simpa [wkM] using hd
    refine ⟨some ⟨g, 0, none⟩, 2, cell_of_heap hb (by rfl), RowAt.of_row (fun j u hu => ?_), by decide, fun e => by cases e⟩
    match j with
    | 0 => (simp at hu; subst hu; exact cell_of_heap ha (by rfl))
    | 1 => (simp at hu; subst hu; exact cell_of_heap ha (by rfl))
    | j + 2 => simp at hu
  | 1 =>
    obtain rfl : [] = d := by simpa [wkM] using hd
    exact ⟨none, 0, cell_of_heap hb (by rfl), RowAt.nil _ _, Nat.le_refl _, fun _ => rfl⟩
  | i + 2 => simp [wkM] at hd
set_option maxRecDepth 100000 in
set_option maxHeartbeats 16000000 in
theorem works17_any (w : World) : Calls Tryz.prog 7 #[] w fun e w' => e = .returned (.bool true) ∧ Below w.heap.size w w' := by
  have hN := wk_new w
  have hnf := func_nil
  go_enter Tryz.func7, Tryz.ntmps7
  go_wp2_with (first
    | (go_at_call 16; refine hN.mono ?_; rintro _ w1 ⟨p, F0, G0, rfl, hO0, hFG0, hb1⟩; have hB := wk_begin hO0; unfold devD at hB)
    | (go_at_call 17; refine hB.mono ?_; rintro _ w2 ⟨rfl, F1, G1, hO1, hm1⟩; obtain ⟨w3, hw3⟩ : ∃ w3, (w2.alloc (.cells #[.int .u8 1, .int .u8 2] 5)).alloc (.cells #[.slice (some ⟨w2.heap.size, 0, none⟩) 2 2, .slice none 0 0] 26) = w3 := ⟨_, rfl⟩; have hb3 : Below w2.heap.size w2 w3 := (by rw [← hw3]; exact (below_alloc _ _).alloc (by simp) _); have hxa : w3.heap[w2.heap.size]? = some (.cells #[.int .u8 1, .int .u8 2] 5 (0, 0)) := (by rw [← hw3]; exact (Below.heap_alloc _ _ _ (by simp)).trans (World.alloc_heap_new w2 _)); have hxb : w3.heap[w2.heap.size + 1]? = some (.cells #[.slice (some ⟨w2.heap.size, 0, none⟩) 2 2, .slice none 0 0] 26 (0, 0)) := (by rw [← hw3]; have := World.alloc_heap_new (w2.alloc (.cells #[.int .u8 1, .int .u8 2] 5)) (.cells #[.slice (some ⟨w2.heap.size, 0, none⟩) 2 2, .slice none 0 0] 26); rwa [World.size_alloc] at this); have hO3 := hO1.below hb3; have hl1 := hO1.lt; have hA := wk_append hO3 (b := some ⟨w2.heap.size + 1, 0, none⟩) (cb := 2) (fun w' hc => wk_ents (hc.obj hxa (fun h => by have := hl1.1 _ h; omega)) (hc.obj hxb (fun h => by have := hl1.1 _ h; omega))); have hAa : Calls Tryz.prog 18 #[.iface 45 (.pointer (some ⟨p, 0, none⟩)), .agg #[.int .i64 5, .slice none 0 0, .int .i64 0, .int .i64 0, .int .i64 0], .slice (some ⟨w2.heap.size + 1, 0, none⟩) 2 2] w3 (fun e w' => ∃ es F' G', e = .returned (.tuple #[.agg #[.int .i64 5, es, .int .i64 40, .int .i64 40, .int .i64 0], .int .i64 0]) ∧ EntIn (fun b => w3.heap.size ≤ b ∧ ¬ F' b ∧ ¬ G' b) w' es wkM ∧ One F' G' w' p wk2 ∧ Moved F1 G1 F' G' w3 w') := hA; have HW3 := Lib.hid hw3; clear hw3 hxa hxb hB hA)
    | rw [HW3.out]
    | (go_at_call 18; refine hAa.mono ?_; rintro _ w4 ⟨es4, F2, G2, rfl, hE4, hO4, hm4⟩; obtain ⟨ea, ec, rfl⟩ := hE4.slice; obtain ⟨w5, hw5⟩ : ∃ w5, w4.alloc (.cells #[.int .i64 5, .slice ea wkM.length ec, .int .i64 40, .int .i64 40, .int .i64 0] 42) = w5 := ⟨_, rfl⟩; have hb5 : Below w4.heap.size w4 w5 := (by rw [← hw5]; exact below_alloc _ _); have hx5 : w5.heap[w4.heap.size]? = some (.cells #[.int .i64 5, .slice ea wkM.length ec, .int .i64 40, .int .i64 40, .int .i64 0] 42 (0, 0)) := (by rw [← hw5]; exact World.alloc_heap_new _ _); have hSc : Calls Tryz.prog 21 #[.iface 45 (.pointer (some ⟨p, 0, none⟩)), .int .i64 5] w5 (fun e w' => ∃ es, e = .returned (.tuple #[.agg #[.int .i64 5, es, .int .i64 40, .int .i64 40, .int .i64 0], .int .i64 0]) ∧ EntIn (fun b => w5.heap.size ≤ b) w' es wkM ∧ Below w5.heap.size w5 w') := wk_scan_any (hO4.below hb5); have HW5 := Lib.hid hw5; clear hw5)
    | rw [HW5.out]
    | (go_at_call 21; refine hSc.mono ?_; rintro _ w6 ⟨es6, rfl, hE6, hb6⟩; obtain ⟨fa, fc, rfl⟩ := hE6.slice; obtain ⟨w7, hw7⟩ : ∃ w7, w6.alloc (.cells #[.int .i64 5, .slice fa wkM.length fc, .int .i64 40, .int .i64 40, .int .i64 0] 42) = w7 := ⟨_, rfl⟩; have hb7 : Below w6.heap.size w6 w7 := (by rw [← hw7]; exact below_alloc _ _); have hx7 : w7.heap[w6.heap.size]? = some (.cells #[.int .i64 5, .slice fa wkM.length fc, .int .i64 40, .int .i64 40, .int .i64 0] 42 (0, 0)) := (by rw [← hw7]; exact World.alloc_heap_new _ _); have hO7 := (hO4.below hb5).below (hb6.trans (hb7.mono hb6.size)); have hRd : Calls Tryz.prog 35 #[.iface 45 (.pointer (some ⟨p, 0, none⟩)), .int .i64 5, .int .i64 5] w7 (fun e w' => ∃ U, e = .returned (.tuple #[U, .int .i64 0]) ∧ BytesIn w' (fun b => w7.heap.size ≤ b) U [1, 2] ∧ Below w7.heap.size w7 w') := wk_read hO7; have HW7 := Lib.hid hw7; clear hw7)
    | rw [HW7.out]
    | (go_at_call 35; refine hRd.mono ?_; rintro _ w8 ⟨U, rfl, hU, hb8⟩; obtain ⟨ua, uc, rfl, _, _, hur⟩ := hU.row; have hx78 := (hb8.block _ (heap_lt hx7)).trans hx7; have p0 := cell_of_heap hx78 (i := 0) (v := .int .i64 5) (by rfl); have p1 := cell_of_heap hx78 (i := 1) (v := .slice fa wkM.length fc) (by rfl); have p2 := cell_of_heap hx78 (i := 2) (v := .int .i64 40) (by rfl); have p3 := cell_of_heap hx78 (i := 3) (v := .int .i64 40) (by rfl); have p4 := cell_of_heap hx78 (i := 4) (v := .int .i64 0) (by rfl); obtain ⟨_, _, e6, hat6⟩ := hE6.at_; cases e6; have hat8 := (hat6.below hb7).below hb8; have hAl := all_any (w := w8) (c := fc) (f := 5) (g := 40) (z := 40) (y := 0) hat8 (by decide) (by decide))
    | (go_at_call 36; refine hAl.mono ?_; rintro _ w9 ⟨es9, rfl, _, _, hb9⟩; have hx79 := (hb9.block _ (heap_lt hx78)).trans hx78; have p0 := cell_of_heap hx79 (i := 0) (v := .int .i64 5) (by rfl); have p1 := cell_of_heap hx79 (i := 1) (v := .slice fa wkM.length fc) (by rfl); have p2 := cell_of_heap hx79 (i := 2) (v := .int .i64 40) (by rfl); have p3 := cell_of_heap hx79 (i := 3) (v := .int .i64 40) (by rfl); have p4 := cell_of_heap hx79 (i := 4) (v := .int .i64 0) (by rfl); have hb59 := ((hb6.trans (hb7.mono hb6.size)).trans (hb8.mono (Nat.le_trans hb6.size hb7.size))).trans (hb9.mono (Nat.le_trans (Nat.le_trans hb6.size hb7.size) hb8.size)); have hx59 := (hb59.block _ (heap_lt hx5)).trans hx5; have q0 := cell_of_heap hx59 (i := 0) (v := .int .i64 5) (by rfl); have q1 := cell_of_heap hx59 (i := 1) (v := .slice ea wkM.length ec) (by rfl); have q2 := cell_of_heap hx59 (i := 2) (v := .int .i64 40) (by rfl); have q3 := cell_of_heap hx59 (i := 3) (v := .int .i64 40) (by rfl); have q4 := cell_of_heap hx59 (i := 4) (v := .int .i64 0) (by rfl); obtain ⟨_, _, e4, hat4⟩ := hE4.at_; cases e4; have hSm := rsegSame_any (w := w9) (c := ec) (d := fc) (f1 := 5) (g1 := 40) (z1 := 40) (y1 := 0) (f2 := 5) (g2 := 40) (z2 := 40) (y2 := 0) ((hat4.below hb5).below hb59) (hat8.below hb9) (by decide); rw [show ((5 : Int) == 5 && (40 : Int) == 40 && (40 : Int) == 40 && (0 : Int) == 0 && wkM == wkM) = true from by decide] at hSm)
    | (go_at_call 11; refine (num17_any _ _).mono ?_; rintro _ wn ⟨rfl, rfl⟩)
    | (go_at_call 22; refine hSm.mono ?_; rintro _ w10 ⟨rfl, hb10⟩; have hcv : (convert 26 9 (.slice ua 2 uc)).run Tryz.prog w10 = .ok (.string ⟨#[1, 2]⟩) w10 := run_conv (P := Tryz.prog) 26 9 5 Tryz.underlying26 Tryz.underlying5 Tryz.underlying9 (c := uc) (l := [1, 2]) ((hur.below hb9).below hb10)))
  go_ret
  refine ⟨rfl, ?_⟩
  have h1 : Below w.heap.size w w2 := hb1.trans (hm1.1.belowLo6 hb1.size (fun b hb => hFG0 b (.inl hb)))
  have h3 := h1.trans (hb3.mono h1.size)
  have h4 : Below w.heap.size w w4 := h3.trans (hm4.1.belowLo6 h3.size (fun b hb => by
    rcases (hm1.2.1 b hb).1 with h | h
    · exact hFG0 b (.inl h)
    · have := hb1.size; omega))
  have h5 := h4.trans (hb5.mono h4.size)
  have h9 := h5.trans (hb59.mono h5.size)
  exact h9.trans (hb10.mono h9.size)

end Go.Proofs.YtlmdpcaikhdenaaGreat
/- SegmentDecodes: the walk. (printed by gen/sdecw.py) -/
namespace Go.Proofs.YtlmdpcaikhdenaaGreat
open Go.RowKit Go.Maps

/-- what Decode answers -/
def decV (f : Int) (b : List UInt8) : SegV × Nat := if f < 0 ∨ 4611686018427387904 < f then (SegV.none, 4) else (SegV.of f.toNat b, 0)
theorem dec_any {w : World} {f : Int} {a : Option Addr} {c : Nat} {b : List UInt8} (hrow : RowAt w a (b.map bv)) (hnil : a = none → c = 0) (hcap : b.length ≤ c) (hl : b.length ≤ 140737488350000) :
    Calls Tryz.prog 14 #[.int .i64 f, .slice a b.length c] w (ScanPost w (decV f b)) := by
  unfold decV
  by_cases hf : f < 0 ∨ 4611686018427387904 < f
  · rw [if_pos hf]
    exact (decode_no hf _).mono fun e w' ⟨h1, h2⟩ => ⟨_, h1, EntIn.nil _ _, h2⟩
  · rw [if_neg hf]
    obtain ⟨n, rfl⟩ := Int.eq_ofNat_of_zero_le (by omega : 0 ≤ f)
    exact (decode_any (by omega) hrow hnil hcap hl).mono fun e w' ⟨es, h1, h2, h3⟩ => ⟨es, h1, h2, h3⟩
theorem rdec_any {w : World} {f : Int} {a : Option Addr} {c : Nat} {b : List UInt8} (hrow : RowAt w a (b.map bv)) (hnil : a = none → c = 0) (hcap : b.length ≤ c) (hl : b.length ≤ 140737488350000) :
    Calls Tryz.prog 97 #[.int .i64 f, .slice a b.length c] w (ScanPost w (decV f b)) := by
  unfold decV
  by_cases hf : f < 0 ∨ 4611686018427387904 < f
  · rw [if_pos hf]
    exact (rdecode_no hf _).mono fun e w' ⟨h1, h2⟩ => ⟨_, h1, EntIn.nil _ _, h2⟩
  · rw [if_neg hf]
    obtain ⟨n, rfl⟩ := Int.eq_ofNat_of_zero_le (by omega : 0 ≤ f)
    exact (rdecode_any (by omega) hrow hnil hcap hl).mono fun e w' ⟨es, h1, h2, h3⟩ => ⟨es, h1, h2, h3⟩
/-- entries that may be written over -/
theorem EntIn.spoil {R : Nat → Prop} {w : World} {v : Value} {L : List (List UInt8)} (h : EntIn R w v L) (hb : ∀ e ∈ L, e.length ≤ maxLen) : ∃ vs, w.ownsRow 0 26 1 v L.length vs ∧ BytesOk w vs ∧ ∀ x ∈ vs, ∀ b, x.ownBlock = some b → R b := by
  obtain ⟨vs, h1, h2, h3, h4⟩ := h
  have key : ∀ x ∈ vs, ∃ l, l ∈ L ∧ BytesIn w R x l := fun x hx => by
    obtain ⟨i, hi, rfl⟩ := List.getElem_of_mem hx
    exact ⟨L[i]'(by omega), List.getElem_mem _, h4 i _ _ (by simp) (by simp)⟩
  refine ⟨vs, h1, fun x hx => ?_, fun x hx b hb => ?_⟩
  · obtain ⟨l, hl, a, c, rfl, _, _, _, _, _, ho⟩ := key x hx
    refine ⟨l.length, l.map bv, ho, hb l hl, fun y hy => ?_⟩
    obtain ⟨u, _, rfl⟩ := List.mem_map.1 hy
    exact ⟨u, rfl⟩
  · obtain ⟨l, hl, a, c, rfl, _, _, _, hR, h0, _⟩ := key x hx
    cases a with
    | none => cases hb
    | some y =>
      have e0 := h0 y rfl
      rw [e0] at hb
      cases hb
      exact hR y rfl
theorem segFrom_entry (first : Nat) (b : List UInt8) (k : Nat) (s : SegL) (n : Nat) (hs : ∀ e ∈ s.entries, e.length ≤ n) (hb : b.length ≤ n) : ∀ e ∈ (segFrom first b k s).entries, e.length ≤ n := by
  induction k generalizing s with
  | zero => exact hs
  | succ k ih =>
    rw [segFrom]
    split
    · split
      · refine ih _ (fun e he => ?_)
        rcases List.mem_append.1 he with he | he
        · exact hs e he
        · simp only [List.mem_singleton] at he
          subst he
          unfold takeB readB
          rw [List.length_drop, List.length_take, List.length_drop, List.length_drop]
          omega
      · exact hs
    · exact hs
theorem decV_entry (f : Int) (b : List UInt8) : ∀ e ∈ (decV f b).1.entries, e.length ≤ b.length := by
  unfold decV
  split
  · intro e he; cases he
  · exact segFrom_entry _ _ _ _ _ (fun e he => by cases he) (Nat.le_refl _)
theorem segFrom_count (first : Nat) (b : List UInt8) (k : Nat) (s : SegL) (hs : s.entries.length ≤ 4096) : (segFrom first b k s).entries.length ≤ 4096 := by
  induction k generalizing s with
  | zero => exact hs
  | succ k ih =>
    rw [segFrom]
    split
    · split
      · rename_i h1 h2
        refine ih _ ?_
        have h3 : s.entries.length ≠ 4096 := fun e => by unfold atE at h2; rw [if_pos e] at h2; omega
        show (s.entries ++ [_]).length ≤ 4096
        simp; omega
      · exact hs
    · exact hs
theorem decV_count (f : Int) (b : List UInt8) : (decV f b).1.entries.length ≤ 4096 := by
  unfold decV
  split
  · show 0 ≤ 4096; omega
  · exact segFrom_count _ _ _ _ (by show 0 ≤ 4096; omega)
theorem mark_row {w : World} {g c : Nat} {l : List UInt8} {u : Value} (h : w.ownsRow 0 5 1 (.slice (some ⟨g, 0, none⟩) (l.length + 1) c) (l.length + 1) (l.map bv ++ [u])) : RowAt w (some ⟨g, 0, none⟩) (l.map bv) := by
  obtain ⟨a', c', e, hr, _⟩ := RowAt.of_owns h
  cases e
  have := hr.take l.length
  rwa [List.take_left' (by simp)] at this

end Go.Proofs.YtlmdpcaikhdenaaGreat
/- SegmentWalks: the walk. (printed by gen/swalkw.py) -/
namespace Go.Proofs.YtlmdpcaikhdenaaGreat
open Go.RowKit Go.Maps

theorem le_foldl_add (l : List Nat) (n : Nat) : n ≤ l.foldl (· + ·) n := by
  induction l generalizing n with
  | nil => exact Nat.le_refl _
  | cons x r ih => exact Nat.le_trans (Nat.le_add_right n x) (ih (n + x))
theorem mem_foldl_add (l : List Nat) (n x : Nat) (h : x ∈ l) : x ≤ l.foldl (· + ·) n := by
  induction l generalizing n with
  | nil => cases h
  | cons y r ih =>
    rcases List.mem_cons.1 h with rfl | h
    · exact Nat.le_trans (Nat.le_add_left x n) (le_foldl_add r (n + x))
    · exact ih _ h
theorem mem_bytesL {L : List (List UInt8)} {e : List UInt8} (h : e ∈ L) : e.length ≤ bytesL L := by
  unfold bytesL
  exact mem_foldl_add _ 0 _ (List.mem_map_of_mem h)
theorem not_great {L : List (List UInt8)} (h : greatL L = false) : L.length ≤ 5000 ∧ ∀ e ∈ L, e.length ≤ 300000 := by
  unfold greatL at h
  simp only [Bool.or_eq_false_iff, decide_eq_false_iff_not] at h
  exact ⟨by omega, fun e he => by have := mem_bytesL he; omega⟩
theorem LentAt.lt {R : Nat → Prop} {w : World} {g c : Nat} {L : List (List UInt8)} (h : LentAt R w g c L) : LentAt (fun b => R b ∧ b < w.heap.size) w g c L := by
  obtain ⟨vs, m, h1, h2, h3, h4, mb, mc, rfl, h5, h6⟩ := h
  refine ⟨vs, _, h1, h2, ⟨h3, (h1.lt g rfl).2⟩, fun i x l hx hl => ?_, mb, mc, rfl, ⟨h5, (h6.lt mb rfl).2⟩, h6⟩
  obtain ⟨b, c, rfl, k1, k2⟩ := h4 i x l hx hl
  exact ⟨b, c, rfl, ⟨k1, (k2.lt b rfl).2⟩, k2⟩
theorem EntsAt.take {w : World} {a : Option Addr} {L : List (List UInt8)} (h : EntsAt w a L) (m : Nat) : EntsAt w a (L.take m) := fun hL => by
  obtain ⟨b, off, e, hc⟩ := h (fun e => hL (by rw [e]; simp))
  refine ⟨b, off, e, fun i d hd => hc i d ?_⟩
  rw [List.getElem?_take] at hd
  split at hd
  · exact hd
  · cases hd
end Go.Proofs.YtlmdpcaikhdenaaGreat
/- What is handed in, opened: bytes, with their room. -/
namespace Go.Proofs.YtlmdpcaikhdenaaGreat
open Go.RowKit Go.Maps Go.ChangeShapes Go.WideShapes Go.Deep
set_option maxRecDepth 1000000

theorem row_of_cellsC {w : World} {a : Addr} {n : Nat} {V : Nat → Value} (h : ∀ i, i < n → w.cell? (a.add i) = some (V i)) : RowAt w (some a) ((List.range n).map V) := fun hne => by
  have hn : 0 < n := by
    rcases Nat.eq_zero_or_pos n with h0 | h0
    · subst h0; simp at hne
    · exact h0
  obtain ⟨b, off, spot⟩ := a
  have h0 := World.cell?_spot (h 0 hn)
  have hspot : spot = none := by simpa [Addr.add] using h0
  subst hspot
  refine ⟨b, off, rfl, fun j u hu => ?_⟩
  rw [List.getElem?_map] at hu
  obtain ⟨i, hi, rfl⟩ := Option.map_eq_some_iff.1 hu
  obtain ⟨hj, hij⟩ := List.getElem?_eq_some_iff.1 hi
  simp at hj hij
  subst hij
  rw [← Go.WideShapes.add_plain]
  exact h j hj
section
variable {H : Type} {enc : TypeId × Value → H} {w : World} {base : Nat}
theorem op_bytesC {fuel : Nat} {v : Value} {x : DataW H × List MemPlace} (h : DataW.trod enc Tryz.prog w base (fun _ => true) true fuel 26 [v] = some x) :
    ∃ a c, ∃ l : List UInt8, v = .slice a l.length c ∧ l.length ≤ c ∧ (a = none → c = 0) ∧ RowAt w a (l.map bv) := by
  rcases open_slice1 Tryz.underlying26 (by kernel_rfl) h with ⟨hcs, rfl⟩ | ⟨a, len, cap, m, n, V, D, Pl, hcs, hb, hl, hm, hmm, rfl, hel⟩
  · simp only [List.cons.injEq, and_true] at hcs
    subst hcs
    exact ⟨none, 0, [], rfl, Nat.le_refl _, fun _ => rfl, RowAt.nil _ _⟩
  · simp only [List.cons.injEq, and_true] at hcs
    subst hcs
    simp only [if_true] at hmm
    subst hmm
    obtain ⟨B, hB⟩ := choose_lt (α := UInt8) (p := fun i b => V i = bv b) (fun i hi => by
      obtain ⟨c, h1, _, h3⟩ := DataW.trod_int Tryz.underlying5 (hel i hi).2
      have h4 := u8_of_wf h3
      simp only [List.cons.injEq, and_true] at h1
      refine ⟨UInt8.ofNat c.toNat, ?_⟩
      rw [h1]
      unfold bv
      congr 1
      rw [UInt8.toNat_ofNat']
      omega)
    refine ⟨some a, m, (List.range len).map B, by simp, by simp; omega, fun h => (by cases h), ?_⟩
    have hr := row_of_cellsC (w := w) (a := a) (n := len) (V := fun i => bv (B i)) (fun i hi => by rw [(hel i (by omega)).1, hB i (by omega)])
    rw [List.map_map]
    exact hr
end

end Go.Proofs.YtlmdpcaikhdenaaGreat
/- What is handed in, opened: bytes, files. -/
namespace Go.Proofs.YtlmdpcaikhdenaaGreat
open Go.RowKit Go.Maps Go.ChangeShapes Go.WideShapes Go.Deep
set_option maxRecDepth 1000000

theorem row_of_cells {w : World} {a : Addr} {n : Nat} {V : Nat → Value} (h : ∀ i, i < n → w.cell? (a.add i) = some (V i)) : RowAt w (some a) ((List.range n).map V) := fun hne => by
  have hn : 0 < n := by
    rcases Nat.eq_zero_or_pos n with h0 | h0
    · subst h0; simp at hne
    · exact h0
  obtain ⟨b, off, spot⟩ := a
  have h0 := World.cell?_spot (h 0 hn)
  have hspot : spot = none := by simpa [Addr.add] using h0
  subst hspot
  refine ⟨b, off, rfl, fun j u hu => ?_⟩
  rw [List.getElem?_map] at hu
  obtain ⟨i, hi, rfl⟩ := Option.map_eq_some_iff.1 hu
  obtain ⟨hj, hij⟩ := List.getElem?_eq_some_iff.1 hi
  simp at hj hij
  subst hij
  rw [← Go.WideShapes.add_plain]
  exact h j hj

section
variable {H : Type} {enc : TypeId × Value → H} {w : World} {base : Nat} {held : Bool}

theorem op_bytes {fuel : Nat} {v : Value} {x : DataW H × List MemPlace} (h : DataW.trod enc Tryz.prog w base (fun _ => true) held fuel 26 [v] = some x) :
    ∃ a c, ∃ l : List UInt8, v = .slice a l.length c ∧ (a = none → c = 0) ∧ RowAt w a (l.map bv) ∧ l.length + 1 ≤ Rows.uptoBulk x.1 := by
  rcases open_slice1 Tryz.underlying26 (by kernel_rfl) h with ⟨hcs, rfl⟩ | ⟨a, len, cap, m, n, V, D, Pl, hcs, hb, hl, hm, hmm, rfl, hel⟩
  · simp only [List.cons.injEq, and_true] at hcs
    subst hcs
    exact ⟨none, 0, [], rfl, fun _ => rfl, RowAt.nil _ _, by simp [Rows.uptoBulk]⟩
  · simp only [List.cons.injEq, and_true] at hcs
    subst hcs
    simp only [if_true] at hmm
    subst hmm
    obtain ⟨B, hB⟩ := choose_lt (α := UInt8) (p := fun i b => V i = bv b) (fun i hi => by
      obtain ⟨c, h1, _, h3⟩ := DataW.trod_int Tryz.underlying5 (hel i hi).2
      have h4 := u8_of_wf h3
      simp only [List.cons.injEq, and_true] at h1
      refine ⟨UInt8.ofNat c.toNat, ?_⟩
      rw [h1]
      unfold bv
      congr 1
      rw [UInt8.toNat_ofNat']
      omega)
    refine ⟨some a, m, (List.range len).map B, by simp, fun h => (by cases h), ?_, ?_⟩
    · have hr := row_of_cells (w := w) (a := a) (n := len) (V := fun i => bv (B i)) (fun i hi => by rw [(hel i (by omega)).1, hB i (by omega)])
      rw [List.map_map]
      exact hr
    · have := bulks.slice_le ((List.range len).map D) ((List.range (m - len)).map fun j => D (len + j))
      simp at this
      simp
      omega

theorem bulk_sum {n : Nat} {D : Nat → DataW H} {f : Nat → Nat} (h : ∀ i, i < n → f i + 1 ≤ Rows.uptoBulk (D i)) : n + ((List.range n).map f).sum ≤ Rows.uptoBulkAll ((List.range n).map D) := by
  induction n with
  | zero => simp [Rows.uptoBulkAll]
  | succ n ih =>
    have h1 := ih (fun i hi => h i (by omega))
    have h2 := h n (by omega)
    rw [List.range_succ, List.map_append, List.map_append, List.sum_append, bulks.append]
    simp [Rows.uptoBulkAll]
    omega
instance : Inhabited (List UInt8 × List UInt8) := ⟨([], [])⟩
theorem op_files {fuel : Nat} {v : Value} {x : DataW H × List MemPlace} (h : DataW.trod enc Tryz.prog w base (fun _ => true) held fuel 82 [v] = some x) :
    ∃ a c, ∃ L : List (List UInt8 × List UInt8), v = .slice a L.length c ∧ FilesArg w a L ∧ (∀ p ∈ L, p.1.length ≤ maxLen) ∧ L.length + (L.map fun p => p.2.length).sum + 1 ≤ Rows.uptoBulk x.1 := by
  rcases open_slice_pairs Tryz.underlying82 Tryz.underlying156 (by kernel_rfl) rfl rfl (by kernel_rfl) (by kernel_rfl) h with ⟨hcs, rfl⟩ | ⟨a, len, cap, m, n, V0, V1, D0, D1, P0, P1, hcs, hb, hl, hm, hmm, rfl, hel⟩
  · simp only [List.cons.injEq, and_true] at hcs
    subst hcs
    exact ⟨none, 0, [], rfl, fun h => absurd rfl h, fun p hp => (by cases hp), by simp [Rows.uptoBulk]⟩
  · simp only [List.cons.injEq, and_true] at hcs
    subst hcs
    simp only [if_true] at hmm
    subst hmm
    obtain ⟨B, hB⟩ := choose_lt (α := List UInt8 × List UInt8) (p := fun i b => V0 i = sv b.1 ∧ b.1.length ≤ maxLen ∧ (∃ ua uc, V1 i = .slice ua b.2.length uc ∧ (ua = none → uc = 0) ∧ RowAt w ua (b.2.map bv)) ∧ b.2.length + 1 ≤ Rows.uptoBulk (DataW.agg [D0 i, D1 i])) (fun i hi => by
      obtain ⟨_, _, h0, h1⟩ := hel i hi
      obtain ⟨s, e1, _, e3⟩ := DataW.trod_string Tryz.underlying9 h0
      obtain ⟨ua, uc, l, f1, f2, f3, f4⟩ := op_bytes h1
      simp only [List.cons.injEq, and_true] at e1
      refine ⟨(s.data.toList, l), by rw [e1]; show Value.string s = .string ⟨s.data.toList.toArray⟩; rw [Array.toArray_toList], by show s.data.toList.length ≤ maxLen; rw [Array.length_toList]; exact e3, ⟨ua, uc, f1, f2, f3⟩, ?_⟩
      simp only [Rows.uptoBulk, Rows.uptoBulkAll] at f4 ⊢
      omega)
    refine ⟨some a, m, (List.range len).map B, by simp, fun hne => ?_, fun p hp => ?_, ?_⟩
    · have hn : 0 < len := by
        rcases Nat.eq_zero_or_pos len with h0 | h0
        · subst h0; simp at hne
        · exact h0
      obtain ⟨b, off, spot⟩ := a
      have h0 := World.cell?_spot (hel 0 (by omega)).1
      have hspot : spot = none := by simpa [Addr.add] using h0
      subst hspot
      refine ⟨b, off, rfl, fun i d hd => ?_⟩
      rw [List.getElem?_map] at hd
      obtain ⟨j, hj, rfl⟩ := Option.map_eq_some_iff.1 hd
      obtain ⟨hjl, hij⟩ := List.getElem?_eq_some_iff.1 hj
      simp at hjl hij
      subst hij
      obtain ⟨c0, c1, _, _⟩ := hel i (by omega)
      obtain ⟨q1, _, ⟨ua, uc, q2, q3, q4⟩, _⟩ := hB i (by omega)
      rw [Go.WideShapes.add_plain, q1] at c0
      rw [Go.WideShapes.add_plain, q2] at c1
      exact ⟨c0, ua, uc, by rw [Nat.add_assoc]; exact c1, q3, q4⟩
    · obtain ⟨i, hi, rfl⟩ := List.mem_map.1 hp
      exact (hB i (by have := List.mem_range.1 hi; omega)).2.1
    · have hs := bulk_sum (n := len) (D := fun i => DataW.agg [D0 i, D1 i]) (f := fun i => (B i).2.length) (fun i hi => (hB i (by omega)).2.2.2)
      have he := bulks.slice_elems ((List.range len).map fun i => DataW.agg [D0 i, D1 i]) ((List.range (m - len)).map fun j => DataW.agg [D0 (len + j), D1 (len + j)])
      simp only [List.length_map, List.length_range, List.map_map]
      have e : ((fun p : List UInt8 × List UInt8 => p.2.length) ∘ B) = fun i => (B i).2.length := rfl
      rw [e]
      omega
end

section
variable {H : Type} {enc : TypeId × Value → H} {w : World} {base : Nat} {held : Bool}
end

end Go.Proofs.YtlmdpcaikhdenaaGreat
/- What is handed in, opened: entries, a segment. -/
namespace Go.Proofs.YtlmdpcaikhdenaaGreat
open Go.RowKit Go.Maps Go.ChangeShapes Go.WideShapes Go.Deep
set_option maxRecDepth 1000000

section
variable {H : Type} {enc : TypeId × Value → H} {w : World} {base : Nat}
theorem k_i64s : Tryz.prog.cellsOf 2 = 1 := by kernel_rfl
theorem k_entss : Tryz.prog.cellsOf 22 = 1 := by kernel_rfl
theorem k_errs : Tryz.prog.cellsOf 27 = 1 := by kernel_rfl
theorem k_segs : Tryz.prog.cellsOf 42 = 5 := by kernel_rfl
/-- bytes, with their room and their bulk -/
theorem op_bytesB {fuel : Nat} {v : Value} {x : DataW H × List MemPlace} (h : DataW.trod enc Tryz.prog w base (fun _ => true) true fuel 26 [v] = some x) :
    ∃ a c, ∃ l : List UInt8, v = .slice a l.length c ∧ l.length ≤ c ∧ (a = none → c = 0) ∧ RowAt w a (l.map bv) ∧ l.length + 1 ≤ Rows.uptoBulk x.1 := by
  obtain ⟨a, c, l, rfl, h1, h2, h3⟩ := op_bytesC h
  obtain ⟨a', c', l', e, _, _, h4⟩ := op_bytes h
  simp only [Value.slice.injEq] at e
  exact ⟨a, c, l, rfl, h1, h2, h3, by rw [e.2.1]; exact h4⟩
/-- entries -/
theorem op_ents {fuel : Nat} {v : Value} {x : DataW H × List MemPlace} (h : DataW.trod enc Tryz.prog w base (fun _ => true) true fuel 22 [v] = some x) :
    ∃ a c, ∃ L : List (List UInt8), v = .slice a L.length c ∧ EntsAt w a L ∧ L.length ≤ c ∧ L.length ≤ maxLen ∧ L.length + 1 ≤ Rows.uptoBulk x.1 ∧ ∀ e ∈ L, e.length + 1 ≤ Rows.uptoBulk x.1 := by
  rcases open_slice1 Tryz.underlying22 (by kernel_rfl) h with ⟨hcs, rfl⟩ | ⟨a, len, cap, m, n, V, D, Pl, hcs, hb, hl, hm, hmm, rfl, hel⟩
  · simp only [List.cons.injEq, and_true] at hcs
    subst hcs
    exact ⟨none, 0, [], rfl, EntsAt.nil _ _, Nat.le_refl _, Nat.zero_le _, by simp [Rows.uptoBulk], fun e he => by cases he⟩
  · simp only [List.cons.injEq, and_true] at hcs
    subst hcs
    simp only [if_true] at hmm
    subst hmm
    obtain ⟨B, hB⟩ := choose_lt (α := List UInt8) (p := fun i b => ∃ ua uc, V i = .slice ua b.length uc ∧ b.length ≤ uc ∧ (ua = none → uc = 0) ∧ RowAt w ua (b.map bv) ∧ b.length + 1 ≤ Rows.uptoBulk (D i)) (fun i hi => by
      obtain ⟨ua, uc, l, h1, h2, h3, h4, h5⟩ := op_bytesB (hel i hi).2
      exact ⟨l, ua, uc, h1, h2, h3, h4, h5⟩)
    have hall : Rows.uptoBulkAll ((List.range len).map D) + 1 ≤ Rows.uptoBulk (DataW.slice ((List.range len).map D) ((List.range (m - len)).map fun j => D (len + j))) := by
      simp only [Rows.uptoBulk]; omega
    have hpart : ∀ i, i < len → Rows.uptoBulk (D i) ≤ Rows.uptoBulkAll ((List.range len).map D) := fun i hi => bulks.part_le (List.mem_map.2 ⟨i, List.mem_range.2 hi, rfl⟩)
    refine ⟨some a, m, (List.range len).map B, by simp, fun _ => ?_, by simp; omega, by simp; omega, ?_, fun e he => ?_⟩
    · obtain ⟨b, off, spot⟩ := a
      by_cases h0 : 0 < len
      · have h1 := World.cell?_spot (hel 0 (by omega)).1
        have hspot : spot = none := by simpa [Addr.add] using h1
        subst hspot
        refine ⟨b, off, rfl, fun i d hd => ?_⟩
        rw [List.getElem?_map] at hd
        obtain ⟨j, hj, rfl⟩ := Option.map_eq_some_iff.1 hd
        obtain ⟨hj1, hj2⟩ := List.getElem?_eq_some_iff.1 hj
        simp at hj1 hj2
        subst hj2
        obtain ⟨ua, uc, h1, h2, h3, h4, _⟩ := hB i (by omega)
        refine ⟨ua, uc, ?_, h4, h2, h3⟩
        have := (hel i (by omega)).1
        rw [Go.WideShapes.add_plain] at this
        rw [this, h1]
      · rename_i hne
        have : len = 0 := by omega
        subst this
        exact absurd rfl hne
    · have := bulks.slice_le ((List.range len).map D) ((List.range (m - len)).map fun j => D (len + j))
      simp at this
      simp
      omega
    · obtain ⟨i, hi, rfl⟩ := List.mem_map.1 he
      have hi' := List.mem_range.1 hi
      obtain ⟨ua, uc, _, _, _, _, h5⟩ := hB i (by omega)
      have := hpart i hi'
      show (B i).length + 1 ≤ Rows.uptoBulk (DataW.slice _ _)
      omega
/-- a segment -/
theorem op_seg {fuel : Nat} {cs : List Value} {x : DataW H × List MemPlace} (h : DataW.trod enc Tryz.prog w base (fun _ => true) true fuel 42 cs = some x) :
    ∃ (f g z y : Int) (a : Option Addr) (c : Nat), ∃ L : List (List UInt8), cs = [.int .i64 f, .slice a L.length c, .int .i64 g, .int .i64 z, .int .i64 y] ∧ EntsAt w a L ∧ L.length ≤ c ∧ L.length ≤ maxLen ∧ (∀ e ∈ L, e.length + 1 ≤ Rows.uptoBulk x.1) ∧ f ≤ 9223372036854775807 := by
  obtain ⟨xs, k, _, hxy, hl, hxl, hf⟩ := DataW.trod_struct Tryz.underlying42 h
  rw [k_segs] at hl
  match xs, hxl, cs, hl with
  | [y0, y1, y2, y3, y4], _, [v0, v1, v2, v3, v4], _ =>
    have g0 := hf 0 _ rfl
    have g1 := hf 1 _ rfl
    have g2 := hf 2 _ rfl
    have g3 := hf 3 _ rfl
    have g4 := hf 4 _ rfl
    simp only [List.getElem_toArray, List.getElem_cons_zero, List.getElem_cons_succ, k_i64s, k_entss, k_errs, List.drop, List.take, List.getElem?_cons_zero, List.getElem?_cons_succ] at g0 g1 g2 g3 g4
    obtain ⟨f, e0, _, wf⟩ := DataW.trod_int Tryz.underlying2 g0
    obtain ⟨a, c, L, e1, hA, hc, hm, _, hb⟩ := op_ents g1
    obtain ⟨gg, e2, _, _⟩ := DataW.trod_int Tryz.underlying2 g2
    obtain ⟨zz, e3, _, _⟩ := DataW.trod_int Tryz.underlying2 g3
    obtain ⟨yy, e4, _, _⟩ := DataW.trod_int Tryz.underlying27 g4
    have e0 := (List.cons.inj e0).1
    have e2 := (List.cons.inj e2).1
    have e3 := (List.cons.inj e3).1
    have e4 := (List.cons.inj e4).1
    refine ⟨f, gg, zz, yy, a, c, L, by rw [e0, e1, e2, e3, e4], hA, hc, hm, fun e he => ?_, ?_⟩
    · have := hb e he
      rw [hxy]
      simp only [List.map_cons, List.map_nil, Rows.uptoBulk, Rows.uptoBulkAll]
      omega
    · have := (i64_of_wf wf).2
      omega
end

end Go.Proofs.YtlmdpcaikhdenaaGreat
