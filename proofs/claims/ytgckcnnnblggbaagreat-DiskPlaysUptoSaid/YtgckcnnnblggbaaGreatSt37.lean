/- Texts of this claim, one behind the other: DnC, RdV. -/
import Derived.Test.YtgckcnnnblggbaaGreatSt35
import Derived.Test.YtgckcnnnblggbaaGreatSt36
import Derived.Laws.IdiomRangeMap
import Derived.Test.YtgckcnnnblggbaaGreatSt33
import Derived.Test.YtgckcnnnblggbaaGreatSt34
set_option linter.unusedSimpArgs false
set_option linter.unusedVariables false
/- Disk: a disk that is not there, and a zero one: used, Room, Pending, the document's Files, goes. -/
namespace Go.Proofs.YtgckcnnnblggbaaGreat
open Go.RowKit Go.Maps Go.Shelf
set_option maxRecDepth 1000000

theorem used_nil {w : World} {p : Nat} {e : TypeId} (h : w.heap[p]? = some (.cells zeroCells e (0, 0))) : Calls Tryz.prog 79 #[.pointer (some ⟨p, 0, none⟩)] w fun e w' => e = .returned (.int .i64 0) ∧ Below w.heap.size w w' := by
  unfold zeroCells at h
  have c2 := cell_of_heap h (i := 2) (v := .map none) (by rfl)
  have hr := fun (w : World) => run_range_nilMap (P := Tryz.prog) w 70 _ _ Tryz.underlying70
  have hn := fun (w : World) (ty : TypeId) (s : Array Nat) => run_next_nilMap (P := Tryz.prog) w ty 0 0 s
  go_enter Tryz.func79, Tryz.ntmps79
  go_wp2_with fail
  refine wp_loop_rounds 1 ?_
  rw [rounds_succ]
  go_wp2
  go_ret
  exact ⟨rfl, below_alloc _ _⟩
theorem Room_nil {w : World} {v : Option Addr} (h : NilD w v) : Calls Tryz.prog 65 #[.pointer v] w fun e w' => e = .returned (.int .i64 0) ∧ Below w.heap.size w w' := by
  rcases h with rfl | ⟨p, e, rfl, h⟩
  · go_enter Tryz.func65, Tryz.ntmps65
    go_wp2
    go_ret
    exact ⟨rfl, Below.refl _ _⟩
  · have c0 := cell_of_heap h (i := 0) (v := .int .i64 0) (by rfl)
    have hU := fun d os => Calls.regrown_of (used_nil ((below_regrown w d os).block p (heap_lt h) |>.trans h))
    have k0 := cell_regrown c0
    go_enter Tryz.func65, Tryz.ntmps65
    go_wp2
    refine wp_region_quiet_belowP rfl (by kernel_rfl) ?_
    repeat (quiet_step (exact hU _ _))
    refine wpQuiet_nil ?_
    intro w4 hb4
    go_wp2
    go_ret
    exact ⟨rfl, hb4⟩
theorem Pending_nil {w : World} {v : Option Addr} (h : NilD w v) : Calls Tryz.prog 17 #[.pointer v] w fun e w' => e = .returned (.tuple #[.int .i64 0, .int .i64 0]) ∧ Below w.heap.size w w' := by
  rcases h with rfl | ⟨p, e, rfl, h⟩
  · go_enter Tryz.func17, Tryz.ntmps17
    go_wp2
    go_ret2
    exact ⟨rfl, Below.refl _ _⟩
  · unfold zeroCells at h
    have c4 := cell_of_heap h (i := 4) (v := .slice none 0 0) (by rfl)
    have c5 := cell_of_heap h (i := 5) (v := .slice none 0 0) (by rfl)
    go_enter Tryz.func17, Tryz.ntmps17
    go_wp2
    go_quiet (fail)
    go_wp2
    go_ret2
    exact ⟨rfl, below_drewN (Below.refl _ _) _⟩
theorem rFiles_nil (w : World) : Calls Tryz.prog 18 #[.pointer none] w fun e w' => ∃ fa fc, e = .returned (.slice fa 0 fc) ∧ FilesRd w' fa [] ∧ Below w.heap.size w w' := by
  go_enter Tryz.func18, Tryz.ntmps18
  go_wp2_with fail
  refine wp_loop_rounds 1 ?_
  rw [rounds_succ]
  go_wp2
  go_ret
  exact ⟨_, _, rfl, FilesRd.nil _ _, Below.refl _ _⟩
theorem goes_nil {w : World} {v : Option Addr} (h : NilD w v) (leave : Int) : Calls Tryz.prog 20 #[.pointer v, .pointer none, .int .i64 leave] w fun e w' => e = .returned (.bool true) ∧ Below w.heap.size w w' :=
  goes_any (L := []) (by decide) leave (fun W hW => Files_nil (h.below hW)) (fun W _ => rFiles_nil W)

end Go.Proofs.YtgckcnnnblggbaaGreat
/- The program's disk and the document's, both perhaps not there. (printed by gen/pair.py) -/
namespace Go.Proofs.YtgckcnnnblggbaaGreat
open Go.RowKit Go.Maps

set_option maxRecDepth 100000 in
theorem rCreate_nil (w : World) (k : ByteArray) : Calls Tryz.prog 35 #[.pointer none, .string k] w fun e w' => e = .returned (.int .i64 1) ∧ w = w' := by
  go_enter Tryz.func35, Tryz.ntmps35
  go_wp2
  go_ret
  exact ⟨rfl, rfl⟩
set_option maxRecDepth 100000 in
theorem rWrite_nil (w : World) (k : ByteArray) (i : Int) (v : Value) : Calls Tryz.prog 38 #[.pointer none, .string k, .int .i64 i, v] w fun e w' => e = .returned (.int .i64 1) ∧ w = w' := by
  go_enter Tryz.func38, Tryz.ntmps38
  go_wp2
  go_ret
  exact ⟨rfl, rfl⟩
set_option maxRecDepth 100000 in
theorem rCut_nil (w : World) (k : ByteArray) (i : Int) : Calls Tryz.prog 42 #[.pointer none, .string k, .int .i64 i] w fun e w' => e = .returned (.int .i64 1) ∧ w = w' := by
  go_enter Tryz.func42, Tryz.ntmps42
  go_wp2
  go_ret
  exact ⟨rfl, rfl⟩
set_option maxRecDepth 100000 in
theorem rSync_nil (w : World) (k : ByteArray) : Calls Tryz.prog 44 #[.pointer none, .string k] w fun e w' => e = .returned (.int .i64 1) ∧ w = w' := by
  go_enter Tryz.func44, Tryz.ntmps44
  go_wp2
  go_ret
  exact ⟨rfl, rfl⟩
set_option maxRecDepth 100000 in
theorem rSyncNames_nil (w : World)  : Calls Tryz.prog 46 #[.pointer none] w fun e w' => e = .returned (.int .i64 1) ∧ w = w' := by
  go_enter Tryz.func46, Tryz.ntmps46
  go_wp2
  go_ret
  exact ⟨rfl, rfl⟩
set_option maxRecDepth 100000 in
theorem rRename_nil (w : World) (k t : ByteArray) : Calls Tryz.prog 48 #[.pointer none, .string k, .string t] w fun e w' => e = .returned (.int .i64 1) ∧ w = w' := by
  go_enter Tryz.func48, Tryz.ntmps48
  go_wp2
  go_ret
  exact ⟨rfl, rfl⟩
set_option maxRecDepth 100000 in
theorem rRemove_nil (w : World) (k : ByteArray) : Calls Tryz.prog 50 #[.pointer none, .string k] w fun e w' => e = .returned (.int .i64 1) ∧ w = w' := by
  go_enter Tryz.func50, Tryz.ntmps50
  go_wp2
  go_ret
  exact ⟨rfl, rfl⟩
set_option maxRecDepth 100000 in
theorem rRead_nil (w : World) (k : ByteArray) (i j : Int) : Calls Tryz.prog 52 #[.pointer none, .string k, .int .i64 i, .int .i64 j] w fun e w' => e = .returned (.tuple #[.slice none 0 0, .int .i64 1]) ∧ w = w' := by
  go_enter Tryz.func52, Tryz.ntmps52
  go_wp2
  go_ret2
  exact ⟨rfl, rfl⟩
set_option maxRecDepth 100000 in
theorem rSize_nil (w : World) (k : ByteArray) : Calls Tryz.prog 55 #[.pointer none, .string k] w fun e w' => e = .returned (.tuple #[.int .i64 0, .int .i64 1]) ∧ w = w' := by
  go_enter Tryz.func55, Tryz.ntmps55
  go_wp2
  go_ret2
  exact ⟨rfl, rfl⟩
set_option maxRecDepth 100000 in
theorem rLeft_nil (w : World)  : Calls Tryz.prog 63 #[.pointer none] w fun e w' => e = .returned (.int .i64 0) ∧ w = w' := by
  go_enter Tryz.func63, Tryz.ntmps63
  go_wp2
  go_ret
  exact ⟨rfl, rfl⟩
set_option maxRecDepth 100000 in
theorem rCopy_nil (w : World)  : Calls Tryz.prog 28 #[.pointer none] w fun e w' => e = .returned (.pointer none) ∧ w = w' := by
  go_enter Tryz.func28, Tryz.ntmps28
  go_wp2
  go_ret
  exact ⟨rfl, rfl⟩

/-- what a step answers, of a disk that may be none -/
def actO (f : DSt → DSt × Nat) : Option DSt → Option DSt × Nat
  | none => (none, 1)
  | some s => (some (f s).1, (f s).2)
/-- both disks, or none -/
def PairO (F G : Nat → Prop) (w : World) (v1 : Option Addr) (o1 : Option DSt) (v2 : Option Addr) (o2 : Option DSt) : Prop := match o1, o2 with
  | none, none => v1 = none ∧ v2 = none
  | some s1, some s2 => ∃ p r, v1 = some ⟨p, 0, none⟩ ∧ v2 = some ⟨r, 0, none⟩ ∧ Two F G w p s1 r s2
  | _, _ => False
theorem PairO.cases {F G : Nat → Prop} {w : World} {v1 v2 : Option Addr} {o1 o2 : Option DSt} (h : PairO F G w v1 o1 v2 o2) : (o1 = none ∧ o2 = none ∧ v1 = none ∧ v2 = none) ∨ ∃ s1 s2 p r, o1 = some s1 ∧ o2 = some s2 ∧ v1 = some ⟨p, 0, none⟩ ∧ v2 = some ⟨r, 0, none⟩ ∧ Two F G w p s1 r s2 := by
  cases o1 <;> cases o2
  · exact .inl ⟨rfl, rfl, h.1, h.2⟩
  · exact h.elim
  · exact h.elim
  · obtain ⟨p, r, h1, h2, h3⟩ := h
    exact .inr ⟨_, _, p, r, rfl, rfl, h1, h2, h3⟩
theorem PairO.ofNil (F G : Nat → Prop) (w : World) : PairO F G w none none none none := ⟨rfl, rfl⟩
theorem PairO.ofTwo {F G : Nat → Prop} {w : World} {p r : Nat} {s1 s2 : DSt} (h : Two F G w p s1 r s2) : PairO F G w (some ⟨p, 0, none⟩) (some s1) (some ⟨r, 0, none⟩) (some s2) := ⟨p, r, rfl, rfl, h⟩
theorem PairO.kept {F G O : Nat → Prop} {w w' : World} {v1 v2 : Option Addr} {o1 o2 : Option DSt} (h : PairO F G w v1 o1 v2 o2) (hc : Chg O w w') (hF : ∀ b, F b → ¬ O b) (hG : ∀ b, G b → ¬ O b) : PairO F G w' v1 o1 v2 o2 := by
  obtain ⟨rfl, rfl, rfl, rfl⟩ | ⟨s1, s2, p, r, rfl, rfl, rfl, rfl, ht⟩ := h.cases
  · exact PairO.ofNil _ _ _
  · exact PairO.ofTwo (ht.kept hc hF hG)
theorem PairO.below {F G : Nat → Prop} {w w' : World} {v1 v2 : Option Addr} {o1 o2 : Option DSt} (h : PairO F G w v1 o1 v2 o2) (hb : Below w.heap.size w w') : PairO F G w' v1 o1 v2 o2 := h.kept (O := fun _ => False) (Chg.of_below hb) (fun _ _ h => h) (fun _ _ h => h)
section
variable {F G : Nat → Prop} {w : World} {v1 v2 : Option Addr} {o1 o2 : Option DSt} {N : Nat}
theorem PairO.create1 (h : PairO F G w v1 o1 v2 o2) {k : List UInt8} (hk : k.length ≤ maxLen) (hok : ∀ s, o1 = some s → s.Ok N) (hN : N + 1 < maxList) :
    Calls Tryz.prog 34 #[.pointer v1, .string ⟨k.toArray⟩] w fun e w' => e = .returned (.int .i64 ((actO (fun s => s.create k) o1).2 : Int)) ∧ ∃ F' G', PairO F' G' w' v1 (actO (fun s => s.create k) o1).1 v2 o2 ∧ Moves F G F' G' w w' := by
  obtain ⟨rfl, rfl, rfl, rfl⟩ | ⟨s1, s2, p, r, rfl, rfl, rfl, rfl, ht⟩ := h.cases
  · exact (Create_nil (.inl rfl)).mono fun e w' ⟨k1, k2⟩ => ⟨k1, F, G, PairO.ofNil _ _ _, Moves.of_below k2⟩
  · exact (ht.create1 hk (hok _ rfl) hN).mono fun e w' ⟨k1, F', G', k2, k3⟩ => ⟨k1, F', G', PairO.ofTwo k2, k3⟩
theorem PairO.create2 (h : PairO F G w v1 o1 v2 o2) {k : List UInt8} (hk : k.length ≤ maxLen) (hok : ∀ s, o2 = some s → s.Ok N) (hN : N + 1 < maxList) :
    Calls Tryz.prog 35 #[.pointer v2, .string ⟨k.toArray⟩] w fun e w' => e = .returned (.int .i64 ((actO (fun s => s.create k) o2).2 : Int)) ∧ ∃ F' G', PairO F' G' w' v1 o1 v2 (actO (fun s => s.create k) o2).1 ∧ Moves F G F' G' w w' := by
  obtain ⟨rfl, rfl, rfl, rfl⟩ | ⟨s1, s2, p, r, rfl, rfl, rfl, rfl, ht⟩ := h.cases
  · exact (rCreate_nil w _).mono fun e w' ⟨k1, k2⟩ => ⟨k1, F, G, PairO.ofNil _ _ _, k2 ▸ Moves.refl _ _ _⟩
  · exact (ht.create2 hk (hok _ rfl) hN).mono fun e w' ⟨k1, F', G', k2, k3⟩ => ⟨k1, F', G', PairO.ofTwo k2, k3⟩
theorem PairO.put1 (h : PairO F G w v1 o1 v2 o2) {k : List UInt8} (hk : k.length ≤ maxLen) {at_ : Int} {xa : Option Addr} {xc : Nat} {l : List UInt8} (hrow : RowAt w xa (l.map bv)) (hnil : xa = none → xc = 0) (hl : l.length ≤ 140737488355328) (h64 : -9223372036854775808 ≤ at_ ∧ at_ < 9223372036854775808) (hok : ∀ s, o1 = some s → s.Ok N) (hN : N + 1 < maxList) :
    Calls Tryz.prog 37 #[.pointer v1, .string ⟨k.toArray⟩, .int .i64 at_, .slice xa l.length xc] w fun e w' => e = .returned (.int .i64 ((actO (fun s => s.put k at_ l) o1).2 : Int)) ∧ ∃ F' G', PairO F' G' w' v1 (actO (fun s => s.put k at_ l) o1).1 v2 o2 ∧ Moves F G F' G' w w' := by
  obtain ⟨rfl, rfl, rfl, rfl⟩ | ⟨s1, s2, p, r, rfl, rfl, rfl, rfl, ht⟩ := h.cases
  · exact (Write_nil (.inl rfl)).mono fun e w' ⟨k1, k2⟩ => ⟨k1, F, G, PairO.ofNil _ _ _, Moves.of_below k2⟩
  · exact (ht.put1 hk hrow hnil hl h64 (hok _ rfl) hN).mono fun e w' ⟨k1, F', G', k2, k3⟩ => ⟨k1, F', G', PairO.ofTwo k2, k3⟩
theorem PairO.put2 (h : PairO F G w v1 o1 v2 o2) {k : List UInt8} (hk : k.length ≤ maxLen) {at_ : Int} {xa : Option Addr} {xc : Nat} {l : List UInt8} (hrow : RowAt w xa (l.map bv)) (hnil : xa = none → xc = 0) (hl : l.length ≤ 140737488355328) (h64 : -9223372036854775808 ≤ at_ ∧ at_ < 9223372036854775808) (hxr : ∀ y, xa = some y → l ≠ [] → ¬ F y.block) (hok : ∀ s, o2 = some s → s.Ok N) (hN : N + 1 < maxList) :
    Calls Tryz.prog 38 #[.pointer v2, .string ⟨k.toArray⟩, .int .i64 at_, .slice xa l.length xc] w fun e w' => e = .returned (.int .i64 ((actO (fun s => s.put k at_ l) o2).2 : Int)) ∧ ∃ F' G', PairO F' G' w' v1 o1 v2 (actO (fun s => s.put k at_ l) o2).1 ∧ Moves F G F' G' w w' := by
  obtain ⟨rfl, rfl, rfl, rfl⟩ | ⟨s1, s2, p, r, rfl, rfl, rfl, rfl, ht⟩ := h.cases
  · exact (rWrite_nil w _ _ _).mono fun e w' ⟨k1, k2⟩ => ⟨k1, F, G, PairO.ofNil _ _ _, k2 ▸ Moves.refl _ _ _⟩
  · exact (ht.put2 hk hrow hnil hl h64 hxr (hok _ rfl) hN).mono fun e w' ⟨k1, F', G', k2, k3⟩ => ⟨k1, F', G', PairO.ofTwo k2, k3⟩
theorem PairO.cut1 (h : PairO F G w v1 o1 v2 o2) {k : List UInt8} (hk : k.length ≤ maxLen) {size : Int} (h64 : -9223372036854775808 ≤ size ∧ size < 9223372036854775808) (hok : ∀ s, o1 = some s → s.Ok N) (hN : N + 1 < maxList) :
    Calls Tryz.prog 41 #[.pointer v1, .string ⟨k.toArray⟩, .int .i64 size] w fun e w' => e = .returned (.int .i64 ((actO (fun s => s.cut k size) o1).2 : Int)) ∧ ∃ F' G', PairO F' G' w' v1 (actO (fun s => s.cut k size) o1).1 v2 o2 ∧ Moves F G F' G' w w' := by
  obtain ⟨rfl, rfl, rfl, rfl⟩ | ⟨s1, s2, p, r, rfl, rfl, rfl, rfl, ht⟩ := h.cases
  · exact (Cut_nil (.inl rfl)).mono fun e w' ⟨k1, k2⟩ => ⟨k1, F, G, PairO.ofNil _ _ _, Moves.of_below k2⟩
  · exact (ht.cut1 hk h64 (hok _ rfl) hN).mono fun e w' ⟨k1, F', G', k2, k3⟩ => ⟨k1, F', G', PairO.ofTwo k2, k3⟩
theorem PairO.cut2 (h : PairO F G w v1 o1 v2 o2) {k : List UInt8} (hk : k.length ≤ maxLen) {size : Int} (h64 : -9223372036854775808 ≤ size ∧ size < 9223372036854775808) (hok : ∀ s, o2 = some s → s.Ok N) (hN : N + 1 < maxList) :
    Calls Tryz.prog 42 #[.pointer v2, .string ⟨k.toArray⟩, .int .i64 size] w fun e w' => e = .returned (.int .i64 ((actO (fun s => s.cut k size) o2).2 : Int)) ∧ ∃ F' G', PairO F' G' w' v1 o1 v2 (actO (fun s => s.cut k size) o2).1 ∧ Moves F G F' G' w w' := by
  obtain ⟨rfl, rfl, rfl, rfl⟩ | ⟨s1, s2, p, r, rfl, rfl, rfl, rfl, ht⟩ := h.cases
  · exact (rCut_nil w _ _).mono fun e w' ⟨k1, k2⟩ => ⟨k1, F, G, PairO.ofNil _ _ _, k2 ▸ Moves.refl _ _ _⟩
  · exact (ht.cut2 hk h64 (hok _ rfl) hN).mono fun e w' ⟨k1, F', G', k2, k3⟩ => ⟨k1, F', G', PairO.ofTwo k2, k3⟩
theorem PairO.sync1 (h : PairO F G w v1 o1 v2 o2) {k : List UInt8} (hk : k.length ≤ maxLen) (hok : ∀ s, o1 = some s → s.Ok N) (hN : N + 1 < maxList) :
    Calls Tryz.prog 43 #[.pointer v1, .string ⟨k.toArray⟩] w fun e w' => e = .returned (.int .i64 ((actO (fun s => s.sync k) o1).2 : Int)) ∧ ∃ F' G', PairO F' G' w' v1 (actO (fun s => s.sync k) o1).1 v2 o2 ∧ Moves F G F' G' w w' := by
  obtain ⟨rfl, rfl, rfl, rfl⟩ | ⟨s1, s2, p, r, rfl, rfl, rfl, rfl, ht⟩ := h.cases
  · exact (Sync_nil (.inl rfl)).mono fun e w' ⟨k1, k2⟩ => ⟨k1, F, G, PairO.ofNil _ _ _, Moves.of_below k2⟩
  · exact (ht.sync1 hk (hok _ rfl) hN).mono fun e w' ⟨k1, F', G', k2, k3⟩ => ⟨k1, F', G', PairO.ofTwo k2, k3⟩
theorem PairO.sync2 (h : PairO F G w v1 o1 v2 o2) {k : List UInt8} (hk : k.length ≤ maxLen) (hok : ∀ s, o2 = some s → s.Ok N) (hN : N + 1 < maxList) :
    Calls Tryz.prog 44 #[.pointer v2, .string ⟨k.toArray⟩] w fun e w' => e = .returned (.int .i64 ((actO (fun s => s.sync k) o2).2 : Int)) ∧ ∃ F' G', PairO F' G' w' v1 o1 v2 (actO (fun s => s.sync k) o2).1 ∧ Moves F G F' G' w w' := by
  obtain ⟨rfl, rfl, rfl, rfl⟩ | ⟨s1, s2, p, r, rfl, rfl, rfl, rfl, ht⟩ := h.cases
  · exact (rSync_nil w _).mono fun e w' ⟨k1, k2⟩ => ⟨k1, F, G, PairO.ofNil _ _ _, k2 ▸ Moves.refl _ _ _⟩
  · exact (ht.sync2 hk (hok _ rfl) hN).mono fun e w' ⟨k1, F', G', k2, k3⟩ => ⟨k1, F', G', PairO.ofTwo k2, k3⟩
theorem PairO.syncNames1 (h : PairO F G w v1 o1 v2 o2)  (hok : ∀ s, o1 = some s → s.Ok N) (hN : N + 1 < maxList) :
    Calls Tryz.prog 45 #[.pointer v1] w fun e w' => e = .returned (.int .i64 ((actO (fun s => s.syncNames) o1).2 : Int)) ∧ ∃ F' G', PairO F' G' w' v1 (actO (fun s => s.syncNames) o1).1 v2 o2 ∧ Moves F G F' G' w w' := by
  obtain ⟨rfl, rfl, rfl, rfl⟩ | ⟨s1, s2, p, r, rfl, rfl, rfl, rfl, ht⟩ := h.cases
  · exact (SyncNames_nil (.inl rfl)).mono fun e w' ⟨k1, k2⟩ => ⟨k1, F, G, PairO.ofNil _ _ _, Moves.of_below k2⟩
  · exact (ht.syncNames1  (hok _ rfl) hN).mono fun e w' ⟨k1, F', G', k2, k3⟩ => ⟨k1, F', G', PairO.ofTwo k2, k3⟩
theorem PairO.syncNames2 (h : PairO F G w v1 o1 v2 o2)  (hok : ∀ s, o2 = some s → s.Ok N) (hN : N + 1 < maxList) :
    Calls Tryz.prog 46 #[.pointer v2] w fun e w' => e = .returned (.int .i64 ((actO (fun s => s.syncNames) o2).2 : Int)) ∧ ∃ F' G', PairO F' G' w' v1 o1 v2 (actO (fun s => s.syncNames) o2).1 ∧ Moves F G F' G' w w' := by
  obtain ⟨rfl, rfl, rfl, rfl⟩ | ⟨s1, s2, p, r, rfl, rfl, rfl, rfl, ht⟩ := h.cases
  · exact (rSyncNames_nil w).mono fun e w' ⟨k1, k2⟩ => ⟨k1, F, G, PairO.ofNil _ _ _, k2 ▸ Moves.refl _ _ _⟩
  · exact (ht.syncNames2  (hok _ rfl) hN).mono fun e w' ⟨k1, F', G', k2, k3⟩ => ⟨k1, F', G', PairO.ofTwo k2, k3⟩
theorem PairO.rename1 (h : PairO F G w v1 o1 v2 o2) {k t : List UInt8} (hk : k.length ≤ maxLen) (hkt : t.length ≤ maxLen) (hok : ∀ s, o1 = some s → s.Ok N) (hN : N + 1 < maxList) :
    Calls Tryz.prog 47 #[.pointer v1, .string ⟨k.toArray⟩, .string ⟨t.toArray⟩] w fun e w' => e = .returned (.int .i64 ((actO (fun s => s.rename k t) o1).2 : Int)) ∧ ∃ F' G', PairO F' G' w' v1 (actO (fun s => s.rename k t) o1).1 v2 o2 ∧ Moves F G F' G' w w' := by
  obtain ⟨rfl, rfl, rfl, rfl⟩ | ⟨s1, s2, p, r, rfl, rfl, rfl, rfl, ht⟩ := h.cases
  · exact (Rename_nil (.inl rfl)).mono fun e w' ⟨k1, k2⟩ => ⟨k1, F, G, PairO.ofNil _ _ _, Moves.of_below k2⟩
  · exact (ht.rename1 hk hkt (hok _ rfl) hN).mono fun e w' ⟨k1, F', G', k2, k3⟩ => ⟨k1, F', G', PairO.ofTwo k2, k3⟩
theorem PairO.rename2 (h : PairO F G w v1 o1 v2 o2) {k t : List UInt8} (hk : k.length ≤ maxLen) (hkt : t.length ≤ maxLen) (hok : ∀ s, o2 = some s → s.Ok N) (hN : N + 1 < maxList) :
    Calls Tryz.prog 48 #[.pointer v2, .string ⟨k.toArray⟩, .string ⟨t.toArray⟩] w fun e w' => e = .returned (.int .i64 ((actO (fun s => s.rename k t) o2).2 : Int)) ∧ ∃ F' G', PairO F' G' w' v1 o1 v2 (actO (fun s => s.rename k t) o2).1 ∧ Moves F G F' G' w w' := by
  obtain ⟨rfl, rfl, rfl, rfl⟩ | ⟨s1, s2, p, r, rfl, rfl, rfl, rfl, ht⟩ := h.cases
  · exact (rRename_nil w _ _).mono fun e w' ⟨k1, k2⟩ => ⟨k1, F, G, PairO.ofNil _ _ _, k2 ▸ Moves.refl _ _ _⟩
  · exact (ht.rename2 hk hkt (hok _ rfl) hN).mono fun e w' ⟨k1, F', G', k2, k3⟩ => ⟨k1, F', G', PairO.ofTwo k2, k3⟩
theorem PairO.remove1 (h : PairO F G w v1 o1 v2 o2) {k : List UInt8} (hk : k.length ≤ maxLen) (hok : ∀ s, o1 = some s → s.Ok N) (hN : N + 1 < maxList) :
    Calls Tryz.prog 49 #[.pointer v1, .string ⟨k.toArray⟩] w fun e w' => e = .returned (.int .i64 ((actO (fun s => s.remove k) o1).2 : Int)) ∧ ∃ F' G', PairO F' G' w' v1 (actO (fun s => s.remove k) o1).1 v2 o2 ∧ Moves F G F' G' w w' := by
  obtain ⟨rfl, rfl, rfl, rfl⟩ | ⟨s1, s2, p, r, rfl, rfl, rfl, rfl, ht⟩ := h.cases
  · exact (Remove_nil (.inl rfl)).mono fun e w' ⟨k1, k2⟩ => ⟨k1, F, G, PairO.ofNil _ _ _, Moves.of_below k2⟩
  · exact (ht.remove1 hk (hok _ rfl) hN).mono fun e w' ⟨k1, F', G', k2, k3⟩ => ⟨k1, F', G', PairO.ofTwo k2, k3⟩
theorem PairO.remove2 (h : PairO F G w v1 o1 v2 o2) {k : List UInt8} (hk : k.length ≤ maxLen) (hok : ∀ s, o2 = some s → s.Ok N) (hN : N + 1 < maxList) :
    Calls Tryz.prog 50 #[.pointer v2, .string ⟨k.toArray⟩] w fun e w' => e = .returned (.int .i64 ((actO (fun s => s.remove k) o2).2 : Int)) ∧ ∃ F' G', PairO F' G' w' v1 o1 v2 (actO (fun s => s.remove k) o2).1 ∧ Moves F G F' G' w w' := by
  obtain ⟨rfl, rfl, rfl, rfl⟩ | ⟨s1, s2, p, r, rfl, rfl, rfl, rfl, ht⟩ := h.cases
  · exact (rRemove_nil w _).mono fun e w' ⟨k1, k2⟩ => ⟨k1, F, G, PairO.ofNil _ _ _, k2 ▸ Moves.refl _ _ _⟩
  · exact (ht.remove2 hk (hok _ rfl) hN).mono fun e w' ⟨k1, F', G', k2, k3⟩ => ⟨k1, F', G', PairO.ofTwo k2, k3⟩

/-- what Read answers, of a disk that may be none -/
def readO (k : List UInt8) (at_ n : Int) : Option DSt → List UInt8 × Nat
  | none => ([], 1)
  | some s => s.read k at_ n
def sizeO (k : List UInt8) : Option DSt → Nat × Nat
  | none => (0, 1)
  | some s => s.size k
theorem PairO.read1 (h : PairO F G w v1 o1 v2 o2) {k : List UInt8} (hk : k.length ≤ maxLen) {at_ n : Int} (h64 : -9223372036854775808 ≤ at_ ∧ at_ < 9223372036854775808) (hok : ∀ s, o1 = some s → s.Ok N) (hN : N < maxList) :
    Calls Tryz.prog 51 #[.pointer v1, .string ⟨k.toArray⟩, .int .i64 at_, .int .i64 n] w fun e w' => ∃ U, e = .returned (.tuple #[U, .int .i64 ((readO k at_ n o1).2 : Int)]) ∧ BytesIn w' (NewIn w w') U (readO k at_ n o1).1 ∧ Below w.heap.size w w' := by
  obtain ⟨rfl, rfl, rfl, rfl⟩ | ⟨s1, s2, p, r, rfl, rfl, rfl, rfl, ht⟩ := h.cases
  · exact (Read_nil (.inl rfl)).mono fun e w' ⟨k1, k2⟩ => ⟨_, k1, BytesIn.nil _ _, k2⟩
  · exact ht.has.read hk h64 (hok _ rfl) hN
theorem PairO.read2 (h : PairO F G w v1 o1 v2 o2) {k : List UInt8} {at_ n : Int} (h64 : -9223372036854775808 ≤ at_ ∧ at_ < 9223372036854775808) (hn64 : -9223372036854775808 ≤ n ∧ n < 9223372036854775808) (hok : ∀ s, o2 = some s → s.Ok N) (hN : N < maxList) :
    Calls Tryz.prog 52 #[.pointer v2, .string ⟨k.toArray⟩, .int .i64 at_, .int .i64 n] w fun e w' => ∃ U, e = .returned (.tuple #[U, .int .i64 ((readO k at_ n o2).2 : Int)]) ∧ BytesIn w' (NewIn w w') U (readO k at_ n o2).1 ∧ Below w.heap.size w w' := by
  have hmx : maxList = 4194304 := rfl
  obtain ⟨rfl, rfl, rfl, rfl⟩ | ⟨s1, s2, p, r, rfl, rfl, rfl, rfl, ht⟩ := h.cases
  · exact (rRead_nil w _ _ _).mono fun e w' ⟨k1, k2⟩ => ⟨_, k1, BytesIn.nil _ _, k2 ▸ Below.refl _ _⟩
  · obtain ⟨R2, h⟩ := ht.rat
    exact rRead_any h (hok _ rfl) (by omega) k h64 hn64
theorem PairO.size1 (h : PairO F G w v1 o1 v2 o2) {k : List UInt8} (hk : k.length ≤ maxLen) (hok : ∀ s, o1 = some s → s.Ok N) (hN : N < maxList) :
    Calls Tryz.prog 54 #[.pointer v1, .string ⟨k.toArray⟩] w fun e w' => e = .returned (.tuple #[.int .i64 ((sizeO k o1).1 : Int), .int .i64 ((sizeO k o1).2 : Int)]) ∧ Below w.heap.size w w' := by
  obtain ⟨rfl, rfl, rfl, rfl⟩ | ⟨s1, s2, p, r, rfl, rfl, rfl, rfl, ht⟩ := h.cases
  · exact Size_nil (.inl rfl)
  · exact ht.has.size hk (hok _ rfl) hN
theorem PairO.size2 (h : PairO F G w v1 o1 v2 o2) {k : List UInt8} (hok : ∀ s, o2 = some s → s.Ok N) (hN : N < maxList) :
    Calls Tryz.prog 55 #[.pointer v2, .string ⟨k.toArray⟩] w fun e w' => e = .returned (.tuple #[.int .i64 ((sizeO k o2).1 : Int), .int .i64 ((sizeO k o2).2 : Int)]) ∧ Below w.heap.size w w' := by
  have hmx : maxList = 4194304 := rfl
  obtain ⟨rfl, rfl, rfl, rfl⟩ | ⟨s1, s2, p, r, rfl, rfl, rfl, rfl, ht⟩ := h.cases
  · exact (rSize_nil w _).mono fun e w' ⟨k1, k2⟩ => ⟨k1, k2 ▸ Below.refl _ _⟩
  · obtain ⟨R2, h⟩ := ht.rat
    exact rSize_any h (hok _ rfl) (by omega) k
end

end Go.Proofs.YtgckcnnnblggbaaGreat
