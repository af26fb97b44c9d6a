/- Texts of this claim, one behind the other: ReG, ReH, ReI, ReJ. -/
import Derived.Test.YtgckcnnnblggbaaGreatPl45
import Derived.Test.YtgckcnnnblggbaaGreatSt34
import Derived.Test.YtgckcnnnblggbaaGreatSt18
set_option linter.unusedSimpArgs false
set_option linter.unusedVariables false
/- asks: any step at all. -/
namespace Go.Proofs.YtgckcnnnblggbaaGreat
open Go.RowKit Go.Maps

/-- a step of the law's -/
structure AStep where
  kind : Int
  who : Int
  name : List UInt8
  dst : List UInt8
  at_ : Int
  n : Int
  data : List UInt8
  sn : Int
  keep : List Bool
  st : Int
def encA (x : AStep) (da : Option Addr) (dc : Nat) (ka : Option Addr) (kc : Nat) : Array Value := #[.int .i64 x.kind, .int .i64 x.who, .string ⟨x.name.toArray⟩, .string ⟨x.dst.toArray⟩, .int .i64 x.at_, .int .i64 x.n, .slice da x.data.length dc, .int .i64 x.sn, .slice ka x.keep.length kc, .int .i64 x.st]
/-- the bounds of a step -/
structure AStep.Ok (x : AStep) : Prop where
  name : x.name.length ≤ maxLen
  dst : x.dst.length ≤ maxLen
  at64 : -9223372036854775808 ≤ x.at_ ∧ x.at_ < 9223372036854775808
  n64 : -9223372036854775808 ≤ x.n ∧ x.n < 9223372036854775808
  data : x.data.length ≤ 70368744177664
/-- a disk behind a step -/
noncomputable def stepO (o : Option DSt) (x : AStep) : Option DSt :=
  if x.kind = 1 then (actO (fun s => s.create x.name) o).1
  else if x.kind = 2 then (actO (fun s => s.put x.name x.at_ x.data) o).1
  else if x.kind = 3 then (actO (fun s => s.cut x.name x.at_) o).1
  else if x.kind = 4 then (actO (fun s => s.sync x.name) o).1
  else if x.kind = 5 then (actO (fun s => s.syncNames) o).1
  else if x.kind = 6 then (actO (fun s => s.rename x.name x.dst) o).1
  else if x.kind = 7 then (actO (fun s => s.remove x.name) o).1
  else o
def OkO (o : Option DSt) (N : Nat) : Prop := ∀ s, o = some s → s.Ok N
theorem OkO.mono {o : Option DSt} {N M : Nat} (h : OkO o N) (hm : N ≤ M) : OkO o M := fun s e => (h s e).mono hm
theorem OkO.act {o : Option DSt} {N : Nat} {f : DSt → DSt × Nat} (h : OkO o N) (hf : ∀ s : DSt, s.Ok N → (f s).1.Ok (N + 1)) : OkO (actO f o).1 (N + 1) := by
  intro s e
  cases o with
  | none => cases e
  | some t => cases e; exact hf t (h t rfl)
theorem stepO_ok {o : Option DSt} {N : Nat} (h : OkO o N) (x : AStep) : OkO (stepO o x) (N + 1) := by
  unfold stepO
  split
  · exact h.act fun s hs => hs.create _
  split
  · exact h.act fun s hs => hs.put _ _ _
  split
  · exact h.act fun s hs => hs.cut _ _
  split
  · exact h.act fun s hs => hs.sync _
  split
  · exact h.act fun s hs => hs.syncNames
  split
  · exact h.act fun s hs => hs.rename _ _
  split
  · exact h.act fun s hs => hs.remove _
  · exact h.mono (by omega)
theorem PairO.lt {F G : Nat → Prop} {w : World} {v1 v2 : Option Addr} {o1 o2 : Option DSt} (h : PairO F G w v1 o1 v2 o2) : o1 ≠ none → (∀ b, F b → b < w.heap.size) ∧ (∀ b, G b → b < w.heap.size) ∧ (∀ b, F b → ¬ G b) := fun hn => by
  obtain ⟨rfl, rfl, rfl, rfl⟩ | ⟨s1, s2, p, r, rfl, rfl, rfl, rfl, ht⟩ := h.cases
  · exact absurd rfl hn
  · exact ⟨ht.lt.1, ht.lt.2.1, ht.lt.2.2.1⟩

section
variable {F G : Nat → Prop} {w : World} {v1 v2 : Option Addr} {o : Option DSt} {N : Nat}
set_option maxRecDepth 100000 in
set_option maxHeartbeats 4000000 in
theorem asks_tells (h : PairO F G w v1 o v2 o) {k t : List UInt8} {who at_ n sn st : Int} {da ka : Option Addr} {dl dc kl kc : Nat} (hok : ∀ s, o = some s → s.Ok N) (hN : N < maxList) :
    Calls Tryz.prog 9 #[.pointer v1, .pointer v2, .agg #[.int .i64 13, .int .i64 who, .string ⟨k.toArray⟩, .string ⟨t.toArray⟩, .int .i64 at_, .int .i64 n, .slice da dl dc, .int .i64 sn, .slice ka kl kc, .int .i64 st]] w fun e w' => e = .returned (.bool true) ∧ ∃ F' G', PairO F' G' w' v1 o v2 o ∧ Moves F G F' G' w w' := by
  obtain ⟨w1, hw1⟩ : ∃ w1, w.alloc (.cells #[.int .i64 13, .int .i64 who, .string ⟨k.toArray⟩, .string ⟨t.toArray⟩, .int .i64 at_, .int .i64 n, .slice da dl dc, .int .i64 sn, .slice ka kl kc, .int .i64 st] 41) = w1 := ⟨_, rfl⟩
  have hb1 : Below w.heap.size w w1 := by rw [← hw1]; exact below_alloc _ _
  have hbx : w1.heap[w.heap.size]? = some (.cells #[.int .i64 13, .int .i64 who, .string ⟨k.toArray⟩, .string ⟨t.toArray⟩, .int .i64 at_, .int .i64 n, .slice da dl dc, .int .i64 sn, .slice ka kl kc, .int .i64 st] 41 (0, 0)) := by rw [← hw1]; exact World.alloc_heap_new w _
  have c0 := cell_of_heap hbx (i := 0) (v := .int .i64 13) (by rfl)
  have c5 := cell_of_heap hbx (i := 5) (v := .int .i64 n) (by rfl)
  have hcc := tells_any (h.below hb1) hok hN
  have HP := Lib.hid h
  clear h hbx hok
  go_enter Tryz.func9, Tryz.ntmps9
  go_wp2_with (first | rw [hw1] | (go_at_call 12; refine hcc.mono ?_; rintro _ w2 ⟨rfl, hb2⟩))
  go_ret
  have hbb := hb1.trans (hb2.mono hb1.size)
  exact ⟨rfl, F, G, HP.out.below hbb, Moves.of_below hbb⟩
theorem asks_any (h : PairO F G w v1 o v2 o) {x : AStep} {da ka : Option Addr} {dc kc : Nat} (hx : x.Ok) (hrow : RowAt w da (x.data.map bv)) (hnil : da = none → dc = 0) (hdF : ∀ y, da = some y → x.data ≠ [] → ¬ F y.block ∧ y.block < w.heap.size) (hok : OkO o N) (hN : N + 1 < maxList) (hF : ∀ b, F b → b < w.heap.size) (hG : ∀ b, G b → b < w.heap.size) :
    Calls Tryz.prog 9 #[.pointer v1, .pointer v2, .agg (encA x da dc ka kc)] w fun e w' => e = .returned (.bool true) ∧ ∃ F' G', PairO F' G' w' v1 (stepO o x) v2 (stepO o x) ∧ Moves F G F' G' w w' := by
  obtain ⟨kind, who, name, dst, at_, n, data, sn, keep, st⟩ := x
  have h1 := hx.name; have h2 := hx.dst; have h3 := hx.at64; have h4 := hx.n64; have h5 := hx.data
  dsimp only at h1 h2 h3 h4 h5 hrow hdF
  unfold encA stepO
  dsimp only
  by_cases k1 : kind = 1
  · subst k1; exact asks_create h h1 hok hN hF hG
  by_cases k2 : kind = 2
  · subst k2; exact asks_put h h1 hrow hnil h5 h3 hdF hok hN hF hG
  by_cases k3 : kind = 3
  · subst k3; exact asks_cut h h1 h3 hok hN hF hG
  by_cases k4 : kind = 4
  · subst k4; exact asks_sync h h1 hok hN hF hG
  by_cases k5 : kind = 5
  · subst k5; exact asks_syncNames h hok hN
  by_cases k6 : kind = 6
  · subst k6; exact asks_rename h h1 h2 hok hN hF hG
  by_cases k7 : kind = 7
  · subst k7; exact asks_remove h h1 hok hN hF hG
  rw [if_neg k1, if_neg k2, if_neg k3, if_neg k4, if_neg k5, if_neg k6, if_neg k7]
  by_cases k8 : kind = 8
  · subst k8; exact asks_read h h1 h3 h4 hok (by omega)
  by_cases k9 : kind = 9
  · subst k9; exact asks_size h h1 hok (by omega)
  by_cases k12 : kind = 12
  · subst k12; exact asks_goes h hok (by omega)
  by_cases k13 : kind = 13
  · subst k13; exact asks_tells h hok (by omega)
  exact asks_other h (by omega) k12 k13
end

end Go.Proofs.YtgckcnnnblggbaaGreat
/- New disks side by side: what Of and Stop make. -/
namespace Go.Proofs.YtgckcnnnblggbaaGreat
open Go.RowKit Go.Maps

set_option maxRecDepth 100000 in
theorem rStop_nil {a b c : Value} (w : World) : Calls Tryz.prog 11 #[.pointer none, .agg #[a, b, c]] w fun e w' => e = .returned (.pointer none) ∧ Below w.heap.size w w' := by
  obtain ⟨w1, hw1⟩ : ∃ w1, w.alloc (.cells #[a, b, c] 39) = w1 := ⟨_, rfl⟩
  have hb1 : Below w.heap.size w w1 := by rw [← hw1]; exact below_alloc w _
  go_enter Tryz.func11, Tryz.ntmps11
  go_wp2_with (rw [hw1])
  go_ret
  exact ⟨rfl, hb1⟩
/-- a disk of the program's that is new from lo on, or none; it reads blocks of G, too -/
def HalfO (G : Nat → Prop) (lo : Nat) (w : World) (q : Option Addr) (o : Option DSt) : Prop := match o with
  | none => q = none
  | some s => ∃ p own R, q = some ⟨p, 0, none⟩ ∧ DiskAt w p s own R ∧ (∀ b ∈ own, lo ≤ b) ∧ ∀ b, R b → G b ∨ lo ≤ b
/-- a disk of the document's that is new from lo on, or none -/
def HalfR (G : Nat → Prop) (lo : Nat) (w : World) (q : Option Addr) (o : Option DSt) : Prop := match o with
  | none => q = none
  | some s => ∃ r R, q = some ⟨r, 0, none⟩ ∧ RAt w r s R ∧ lo ≤ r ∧ ∀ b, R b → G b ∨ lo ≤ b
theorem HalfO.below {G : Nat → Prop} {lo : Nat} {w w' : World} {q : Option Addr} {o : Option DSt} (h : HalfO G lo w q o) (hb : Below w.heap.size w w') : HalfO G lo w' q o := by
  cases o with
  | none => exact h
  | some s =>
    obtain ⟨p, own, R, e, ⟨mf, mn, ms, fb, vs, vw, ss, ws, t, h1, rfl⟩, h2, h3⟩ := h
    exact ⟨p, _, R, e, ⟨mf, mn, ms, fb, vs, vw, ss, ws, t, h1.kept (O := fun _ => False) (Chg.of_below hb) (fun _ _ h => h) (fun _ _ h => h), rfl⟩, h2, h3⟩
theorem PairO.join {G : Nat → Prop} {lo : Nat} {w0 w : World} {q1 q2 : Option Addr} {o : Option DSt} (h1 : HalfO G lo w0 q1 o) (hb : Below w0.heap.size w0 w) (h2 : HalfR G w0.heap.size w q2 o) (hG : ∀ b, G b → b < lo) (hlo : lo ≤ w0.heap.size) :
    ∃ F' G', PairO F' G' w q1 o q2 o ∧ (∀ b, F' b → lo ≤ b ∧ b < w.heap.size) ∧ ∀ b, G' b → (G b ∨ lo ≤ b) ∧ b < w.heap.size := by
  have h1w := h1.below hb
  have hsz := hb.size
  cases o with
  | none =>
    obtain rfl : q1 = none := h1
    obtain rfl : q2 = none := h2
    exact ⟨fun _ => False, fun _ => False, PairO.ofNil _ _ _, fun _ h => h.elim, fun _ h => h.elim⟩
  | some s =>
    obtain ⟨p, own, R, rfl, hd, ho, hR⟩ := h1
    obtain ⟨p', own', R', e, hd', ho', hR'⟩ := h1w
    obtain ⟨r, R2, rfl, hr, hrl, hR2⟩ := h2
    have hdw : DiskAt w p s own R := by
      obtain ⟨mf, mn, ms, fb, vs, vw, ss, ws, t, k1, rfl⟩ := hd
      exact ⟨mf, mn, ms, fb, vs, vw, ss, ws, t, k1.kept (O := fun _ => False) (Chg.of_below hb) (fun _ _ h => h) (fun _ _ h => h), rfl⟩
    refine ⟨_, _, PairO.ofTwo (F := fun b => b ∈ own ∨ b = r) (G := fun b => R b ∨ R2 b) ⟨own, R, R2, hdw, hr, fun _ => Iff.rfl, fun _ => Iff.rfl, fun hm => ?_, fun hm => ?_, fun b hm hb2 => ?_⟩, fun b hb => ?_, fun b hb => ?_⟩
    · have := hd.own_lt hm; omega
    · have := (hd.shared hm).1; omega
    · have h3 := hd.own_lt hm
      rcases hR2 b hb2 with h | h
      · have := hG b h; have := ho b hm; omega
      · omega
    · rcases hb with hb | rfl
      · exact ⟨ho b hb, hdw.own_lt hb⟩
      · exact ⟨by omega, hr.r_lt⟩
    · rcases hb with hb | hb
      · exact ⟨hR b hb, (hdw.shared hb).1⟩
      · exact ⟨(hR2 b hb).imp id (fun h => by omega), hr.lt b hb⟩

section
variable {F G : Nat → Prop} {w w1 : World} {v1 v2 : Option Addr} {o : Option DSt} {N : Nat}
/-- what a stop leaves of a disk that may be none -/
def stopO (names : Int) (keep : List Bool) (torn : Int) (o : Option DSt) : Option DSt := o.map fun s => s.stop names keep torn
theorem stopO_ok {names torn : Int} {keep : List Bool} (h : OkO o N) : OkO (stopO names keep torn o) (N + N) := fun s e => by
  cases o with
  | none => cases e
  | some t => cases e; exact (h t rfl).stop _ _ _
theorem PairO.stop1 (h : PairO F G w v1 o v2 o) {names torn : Int} (htorn : torn < 9223372036854775808) {ka : Option Addr} {kc : Nat} {keep : List Bool} (hkrow : RowAt w ka (keep.map Value.bool)) (hkeep : keep.length ≤ maxLen) (hok : OkO o N) (hN : N < maxList) :
    Calls Tryz.prog 10 #[.pointer v1, .agg #[.int .i64 names, .slice ka keep.length kc, .int .i64 torn]] w fun e w' => ∃ q, e = .returned (.pointer q) ∧ HalfO G w.heap.size w' q (stopO names keep torn o) ∧ Below w.heap.size w w' := by
  obtain ⟨rfl, _, rfl, rfl⟩ | ⟨s1, s2, p, r, rfl, rfl', rfl, rfl, ht⟩ := h.cases
  · exact (Stop_nil (.inl rfl)).mono fun e w' ⟨k1, k2⟩ => ⟨none, k1, rfl, k2⟩
  · obtain ⟨own, R, R2, ⟨mf, mn, ms, fb, vs, vw, ss, ws, e, h1, rfl⟩, h2, h3, h4, h5, h6, h7⟩ := ht
    exact (Stop_any h1 (hok _ rfl) hN htorn hkrow hkeep).mono fun e w' ⟨po, own', k1, k2, k3, k4⟩ => ⟨_, k1, ⟨po, own', _, rfl, k2, k3, fun b hb => hb.elim (fun h => .inl ((h4 b).2 (.inl h))) (fun h => .inr h.1)⟩, k4⟩
theorem PairO.stop2 (h : PairO F G w v1 o v2 o) {names torn : Int} {ka : Option Addr} {kc : Nat} {keep : List Bool} (hkrow : RowAt w ka (keep.map Value.bool)) (hkeep : keep.length ≤ maxLen) (hok : OkO o N) (hN : N < maxList) :
    Calls Tryz.prog 11 #[.pointer v2, .agg #[.int .i64 names, .slice ka keep.length kc, .int .i64 torn]] w fun e w' => ∃ q, e = .returned (.pointer q) ∧ HalfR G w.heap.size w' q (stopO names keep torn o) ∧ Below w.heap.size w w' := by
  have hmx : maxList = 4194304 := rfl
  obtain ⟨rfl, _, rfl, rfl⟩ | ⟨s1, s2, p, r, rfl, e2, rfl, rfl, ht⟩ := h.cases
  · exact (rStop_nil w).mono fun e w' ⟨k1, k2⟩ => ⟨none, k1, rfl, k2⟩
  · cases e2
    obtain ⟨R2, h2⟩ := ht.rat
    exact (rStop_any h2 (hok _ rfl) (by omega) hkrow hkeep).mono fun e w' ⟨po, k1, k2, ⟨R', k3, k4⟩, k5⟩ => ⟨_, k1, ⟨po, R', rfl, k3, k2, fun b hb => .inr (k4 b hb)⟩, k5⟩
end

end Go.Proofs.YtgckcnnnblggbaaGreat
/- Plain: a disk stands as its lasting parts and its pending steps say; what a stop that keeps all leaves; a stop of what a stop left. -/
namespace Go.Proofs.YtgckcnnnblggbaaGreat
open Go.RowKit Go.Maps

/-- a file behind writes -/
def applyW (ws : List Wr) (f : Nat) (b : List UInt8) : List UInt8 := ws.foldl (fun b x => if x.file == f then laid b x x.data.length else b) b
theorem applyW_append (ws us : List Wr) (f : Nat) (b : List UInt8) : applyW (ws ++ us) f b = applyW us f (applyW ws f b) := by unfold applyW; rw [List.foldl_append]
/-- names and files stand as what lasts and what is pending say -/
structure Whole (s : DSt) : Prop where
  names : s.steps.foldl doStep s.sure = s.names
  data : ∀ f, applyW s.writes f (s.lasts f) = s.stands f
theorem Whole.step {s : DSt} (h : Whole s) (x : NStep) : Whole (s.step x) := ⟨by show (s.steps ++ [x]).foldl doStep s.sure = doStep s.names x; rw [List.foldl_append, h.names]; rfl, h.data⟩
theorem Whole.tick {s : DSt} (h : Whole s) : Whole s.tick := ⟨h.names, h.data⟩
theorem Whole.addFile {s : DSt} (h : Whole s) : Whole ({ s with files := s.files ++ [([], [])] } : DSt) := by
  have he : ∀ f, (s.files ++ [(([] : List UInt8), ([] : List UInt8))]).getD f ([], []) = s.files.getD f ([], []) := fun f => by
    simp only [List.getD_eq_getElem?_getD]
    by_cases hf : f < s.files.length
    · rw [List.getElem?_append_left hf]
    · rw [List.getElem?_append_right (by omega), List.getElem?_eq_none (l := s.files) (by omega)]
      cases hq : f - s.files.length with
      | zero => rfl
      | succ q => rfl
  refine ⟨h.names, fun f => ?_⟩
  have := h.data f
  unfold DSt.lasts DSt.stands at this ⊢
  rw [he]
  exact this
theorem getD_set {s : DSt} {n f : Nat} (d : List UInt8 × List UInt8) (hn : n < s.files.length) : (s.files.set n d).getD f ([], []) = if n = f then d else s.files.getD f ([], []) := by
  simp only [List.getD_eq_getElem?_getD, List.getElem?_set]
  split
  · rename_i e; subst e; simp [hn]
  · rfl
theorem Whole.write {s : DSt} (h : Whole s) {x : Wr} (hx : x.file < s.files.length) : Whole (s.write x) := by
  refine ⟨h.names, fun f => ?_⟩
  have h1 := h.data f
  show applyW (s.writes ++ [x]) f ((s.files.set x.file (laid (s.stands x.file) x x.data.length, s.lasts x.file)).getD f ([], [])).2 = ((s.files.set x.file (laid (s.stands x.file) x x.data.length, s.lasts x.file)).getD f ([], [])).1
  rw [getD_set _ hx, applyW_append]
  by_cases e : x.file = f
  · subst e
    rw [if_pos rfl]
    show applyW [x] x.file (applyW s.writes x.file (s.lasts x.file)) = _
    rw [h1]
    simp [applyW]
  · rw [if_neg e]
    show applyW [x] f (applyW s.writes f (s.lasts f)) = s.stands f
    rw [h1]
    simp [applyW, e]
theorem find_lt {s : DSt} {N : Nat} (hok : s.Ok N) {k : List UInt8} {f : Nat} (h : nlFind s.names k = some f) : f < s.files.length := (hok.names _ (nlFind_mem h)).1
theorem Whole.create {s : DSt} (h : Whole s) (k : List UInt8) : Whole (s.create k).1 := by
  unfold DSt.create
  split
  · exact h.tick
  · split
    · exact h.tick
    · exact h.addFile.step _
theorem Whole.put {s : DSt} {N : Nat} (h : Whole s) (hok : s.Ok N) (k : List UInt8) (at_ : Int) (b : List UInt8) : Whole (s.put k at_ b).1 := by
  unfold DSt.put
  split
  · exact h.tick
  · rename_i f hf
    dsimp only
    split
    · exact h.tick
    · split
      · exact h.tick
      · exact h.write (find_lt hok hf)
theorem Whole.cut {s : DSt} {N : Nat} (h : Whole s) (hok : s.Ok N) (k : List UInt8) (size : Int) : Whole (s.cut k size).1 := by
  unfold DSt.cut
  split
  · exact h.tick
  · rename_i f hf
    split
    · exact h.tick
    · exact h.write (find_lt hok hf)
theorem applyW_skip (ws : List Wr) (f g : Nat) (b : List UInt8) (hne : f ≠ g) : applyW (ws.filter fun x => !(x.file == f)) g b = applyW ws g b := by
  induction ws generalizing b with
  | nil => rfl
  | cons x r ih =>
    by_cases e : x.file = f
    · have e1 : (!(x.file == f)) = false := by simp [e]
      have e2 : (x.file == g) = false := by simpa using fun h : x.file = g => hne (e.symm.trans h)
      rw [List.filter_cons_of_neg (by simp [e1])]
      rw [ih]
      show _ = applyW r g (if x.file == g then laid b x x.data.length else b)
      rw [e2]; rfl
    · have e1 : (!(x.file == f)) = true := by simpa using e
      rw [List.filter_cons_of_pos (p := fun x : Wr => !(x.file == f)) e1]
      exact ih _
theorem applyW_none (ws : List Wr) (f : Nat) (b : List UInt8) : applyW (ws.filter fun x => !(x.file == f)) f b = b := by
  induction ws generalizing b with
  | nil => rfl
  | cons x r ih =>
    by_cases e : x.file = f
    · rw [List.filter_cons_of_neg (by simp [e])]; exact ih b
    · have e1 : (!(x.file == f)) = true := by simpa using e
      have e2 : (x.file == f) = false := by simpa using e
      rw [List.filter_cons_of_pos (p := fun x : Wr => !(x.file == f)) e1]
      show applyW (r.filter _) f (if x.file == f then laid b x x.data.length else b) = b
      rw [e2]
      exact ih b
theorem Whole.sync {s : DSt} {N : Nat} (h : Whole s) (hok : s.Ok N) (k : List UInt8) : Whole (s.sync k).1 := by
  unfold DSt.sync
  split
  · exact h.tick
  · rename_i f hf
    have hlt := find_lt hok hf
    refine ⟨h.names, fun g => ?_⟩
    show applyW (s.writes.filter fun x => !(x.file == f)) g ((s.files.set f (s.stands f, s.stands f)).getD g ([], [])).2 = ((s.files.set f (s.stands f, s.stands f)).getD g ([], [])).1
    rw [getD_set _ hlt]
    by_cases e : f = g
    · subst e
      rw [if_pos rfl]
      exact applyW_none _ _ _
    · rw [if_neg e, applyW_skip _ _ _ _ e]
      exact h.data g
theorem Whole.syncNames {s : DSt} (h : Whole s) : Whole (s.syncNames).1 := ⟨rfl, h.data⟩
theorem Whole.rename {s : DSt} (h : Whole s) (k t : List UInt8) : Whole (s.rename k t).1 := by
  unfold DSt.rename
  split
  · exact h.tick
  · split
    · exact h.tick
    · exact h.step _
theorem Whole.remove {s : DSt} (h : Whole s) (k : List UInt8) : Whole (s.remove k).1 := by
  unfold DSt.remove
  split
  · exact h.tick
  · exact h.step _
theorem ofFiles_stands (room : Nat) (L : List (List UInt8 × List UInt8)) (n : Nat) : (DSt.ofFiles room L).stands n = (L.getD n ([], [])).2 := by
  show ((L.map fun p => (p.2, p.2)).getD n ([], [])).1 = _
  simp only [List.getD_eq_getElem?_getD, List.getElem?_map]
  cases L[n]? <;> rfl
theorem ofFiles_lasts (room : Nat) (L : List (List UInt8 × List UInt8)) (n : Nat) : (DSt.ofFiles room L).lasts n = (L.getD n ([], [])).2 := by
  show ((L.map fun p => (p.2, p.2)).getD n ([], [])).2 = _
  simp only [List.getD_eq_getElem?_getD, List.getElem?_map]
  cases L[n]? <;> rfl
theorem Whole.ofFiles (room : Nat) (L : List (List UInt8 × List UInt8)) : Whole (DSt.ofFiles room L) := ⟨rfl, fun f => by rw [ofFiles_lasts, ofFiles_stands]; rfl⟩
theorem zip_files (L : List (List UInt8 × List UInt8)) (g : Nat → List UInt8) (hg : ∀ (i : Nat) p, L[i]? = some p → g i = p.2) : (L.zipIdx.map fun p => (p.1.1, p.2)).map (fun p => (p.1, g p.2)) = L := by
  refine List.ext_getElem? fun i => ?_
  rw [List.getElem?_map, List.getElem?_map, List.getElem?_zipIdx]
  cases hi : L[i]? with
  | none => rfl
  | some p => simp [hg i p hi]
theorem ofFiles_all (room : Nat) (L : List (List UInt8 × List UInt8)) : (DSt.ofFiles room L).all = L := by
  unfold DSt.all
  exact zip_files L _ (fun i p hp => by rw [ofFiles_stands, List.getD_eq_getElem?_getD, hp]; rfl)
/-- what a stop leaves stops to itself -/
theorem ofFiles_stop (room : Nat) (L : List (List UInt8 × List UInt8)) (names : Int) (keep : List Bool) (torn : Int) : ((DSt.ofFiles room L).stop names keep torn).all = L := by
  unfold DSt.stop
  rw [ofFiles_all]
  have h1 : stopNames (DSt.ofFiles room L) names = L.zipIdx.map fun p => (p.1.1, p.2) := by
    unfold stopNames
    show (([] : List NStep).take _).foldl doStep _ = _
    rw [List.take_nil]
    rfl
  rw [h1]
  exact zip_files L _ (fun i p hp => by
    show (DSt.ofFiles room L).lasts i = p.2
    rw [ofFiles_lasts, List.getD_eq_getElem?_getD, hp]; rfl)
theorem stop_again (s : DSt) (n1 n2 : Int) (k1 k2 : List Bool) (t1 t2 : Int) : ((s.stop n1 k1 t1).stop n2 k2 t2).all = (s.stop n1 k1 t1).all := by
  conv => rhs; unfold DSt.stop
  rw [ofFiles_all]
  conv => lhs; rw [DSt.stop.eq_def s]
  exact ofFiles_stop _ _ _ _ _
theorem stop_room (s : DSt) (names : Int) (keep : List Bool) (torn : Int) : (s.stop names keep torn).room = s.room := rfl
/-- a stop that keeps all leaves what stands -/
theorem stopFile_all (s : DSt) (last : Option Nat) (f : Nat) : ∀ k, k ≤ s.writes.length → stopFile s (List.replicate s.writes.length true) last (-1) f k = applyW (s.writes.take k) f (s.lasts f)
  | 0, _ => rfl
  | k + 1, hk => by
    have hx : s.writes[k]? = some s.writes[k] := by simp
    have hk1 : (List.replicate s.writes.length true).getD k false = true := by rw [List.getD_eq_getElem?_getD, List.getElem?_replicate, if_pos (by omega)]; rfl
    have hl : ∀ x : Wr, laidOf last (-1) k x = x.data.length := fun x => by unfold laidOf; rw [if_neg (by omega)]
    rw [List.take_succ_eq_append_getElem (by omega), applyW_append, ← stopFile_all s last f k (by omega)]
    show (match s.writes[k]? with | some x => if (List.replicate s.writes.length true).getD k false && x.file == f then laid _ x (laidOf last (-1) k x) else _ | none => _) = _
    rw [hx]
    simp only [hk1, Bool.true_and, hl]
    rfl
theorem stop_keepsAll {s : DSt} (h : Whole s) : (s.stop (s.steps.length : Int) (List.replicate s.writes.length true) (-1)).all = s.all := by
  unfold DSt.stop
  rw [ofFiles_all]
  have h1 : stopNames s (s.steps.length : Int) = s.names := by
    unfold stopNames
    rw [Int.toNat_natCast, List.take_length]
    exact h.names
  rw [h1]
  unfold DSt.all
  refine List.map_congr_left fun p _ => ?_
  rw [stopFile_all s _ _ _ (Nat.le_refl _), List.take_length, h.data]

/-! ### a step adds at most one pending write -/
theorem DSt.create_w (s : DSt) (k : List UInt8) : (s.create k).1.writes.length ≤ s.writes.length + 1 ∧ (s.create k).1.room = s.room := by
  unfold DSt.create; split
  · exact ⟨Nat.le_succ _, rfl⟩
  · split
    · exact ⟨Nat.le_succ _, rfl⟩
    · exact ⟨Nat.le_succ _, rfl⟩
theorem DSt.put_w (s : DSt) (k : List UInt8) (at_ : Int) (b : List UInt8) : (s.put k at_ b).1.writes.length ≤ s.writes.length + 1 ∧ (s.put k at_ b).1.room = s.room := by
  unfold DSt.put; split
  · exact ⟨Nat.le_succ _, rfl⟩
  · dsimp only
    split
    · exact ⟨Nat.le_succ _, rfl⟩
    · split
      · exact ⟨Nat.le_succ _, rfl⟩
      · exact ⟨by show (s.writes ++ [_]).length ≤ _; simp, rfl⟩
theorem DSt.cut_w (s : DSt) (k : List UInt8) (size : Int) : (s.cut k size).1.writes.length ≤ s.writes.length + 1 ∧ (s.cut k size).1.room = s.room := by
  unfold DSt.cut; split
  · exact ⟨Nat.le_succ _, rfl⟩
  · split
    · exact ⟨Nat.le_succ _, rfl⟩
    · exact ⟨by show (s.writes ++ [_]).length ≤ _; simp, rfl⟩
theorem DSt.sync_w (s : DSt) (k : List UInt8) : (s.sync k).1.writes.length ≤ s.writes.length + 1 ∧ (s.sync k).1.room = s.room := by
  unfold DSt.sync; split
  · exact ⟨Nat.le_succ _, rfl⟩
  · exact ⟨Nat.le_succ_of_le (List.length_filter_le _ _), rfl⟩
theorem DSt.rename_w (s : DSt) (k t : List UInt8) : (s.rename k t).1.writes.length ≤ s.writes.length + 1 ∧ (s.rename k t).1.room = s.room := by
  unfold DSt.rename; split
  · exact ⟨Nat.le_succ _, rfl⟩
  · split <;> exact ⟨Nat.le_succ _, rfl⟩
theorem DSt.remove_w (s : DSt) (k : List UInt8) : (s.remove k).1.writes.length ≤ s.writes.length + 1 ∧ (s.remove k).1.room = s.room := by
  unfold DSt.remove; split <;> exact ⟨Nat.le_succ _, rfl⟩
end Go.Proofs.YtgckcnnnblggbaaGreat
/- Plain: what holds of a disk that may be none, behind the law's steps. -/
namespace Go.Proofs.YtgckcnnnblggbaaGreat
open Go.RowKit Go.Maps

def WholeO (o : Option DSt) : Prop := ∀ s, o = some s → Whole s
theorem WholeO.act {o : Option DSt} {f : DSt → DSt × Nat} (h : WholeO o) (hf : ∀ s : DSt, o = some s → Whole s → Whole (f s).1) : WholeO (actO f o).1 := by
  intro s e
  cases o with
  | none => cases e
  | some t => cases e; exact hf t rfl (h t rfl)
theorem stepO_whole {o : Option DSt} {N : Nat} (h : WholeO o) (hok : OkO o N) (x : AStep) : WholeO (stepO o x) := by
  unfold stepO
  split
  · exact h.act fun s _ hs => hs.create _
  split
  · exact h.act fun s e hs => hs.put (hok s e) _ _ _
  split
  · exact h.act fun s e hs => hs.cut (hok s e) _ _
  split
  · exact h.act fun s e hs => hs.sync (hok s e) _
  split
  · exact h.act fun s _ hs => hs.syncNames
  split
  · exact h.act fun s _ hs => hs.rename _ _
  split
  · exact h.act fun s _ hs => hs.remove _
  · exact h

/-- at most so many writes pending; this room -/
def WrO (o : Option DSt) (M room : Nat) : Prop := ∀ s, o = some s → s.writes.length ≤ M ∧ s.room = room
theorem WrO.act {o : Option DSt} {M room : Nat} {f : DSt → DSt × Nat} (h : WrO o M room) (hf : ∀ s : DSt, (f s).1.writes.length ≤ s.writes.length + 1 ∧ (f s).1.room = s.room) : WrO (actO f o).1 (M + 1) room := by
  intro s e
  cases o with
  | none => cases e
  | some t =>
    cases e
    have := hf t
    have := h t rfl
    exact ⟨by omega, by omega⟩
theorem stepO_w {o : Option DSt} {M room : Nat} (h : WrO o M room) (x : AStep) : WrO (stepO o x) (M + 1) room := by
  unfold stepO
  split
  · exact h.act fun s => s.create_w _
  split
  · exact h.act fun s => s.put_w _ _ _
  split
  · exact h.act fun s => s.cut_w _ _
  split
  · exact h.act fun s => s.sync_w _
  split
  · exact h.act fun s => ⟨Nat.le_succ _, rfl⟩
  split
  · exact h.act fun s => s.rename_w _ _
  split
  · exact h.act fun s => s.remove_w _
  · exact fun s e => ⟨by have := h s e; omega, (h s e).2⟩
theorem stepO_none {o : Option DSt} (x : AStep) : stepO o x = none ↔ o = none := by
  have ha : ∀ f : DSt → DSt × Nat, (actO f o).1 = none ↔ o = none := fun f => by cases o <;> simp [actO]
  unfold stepO
  repeat' split
  all_goals first | exact ha _ | exact Iff.rfl

end Go.Proofs.YtgckcnnnblggbaaGreat
