/- Disk: a disk that is not there, and a zero one. -/
import Derived.Test.YtgckcnnnblggbaaDlI
import Derived.Test.YtgckcnnnblggbaaDlQ
import Derived.Test.YtgckcnnnblggbaaDlR
import Derived.Laws.IdiomRangeMap
/- Disk: a disk that is not there, and a zero one: the methods. -/
namespace Go.Proofs.Ytgckcnnnblggbaa
open Go.RowKit Go.Maps
set_option maxRecDepth 1000000

def zeroCells : Array Value := #[.int .i64 0, .map none, .map none, .map none, .slice none 0 0, .slice none 0 0, .int .i64 0]
/-- a disk that is not there, or a zero one -/
def NilD (w : World) (v : Option Addr) : Prop := v = none ∨ ∃ p e, v = some ⟨p, 0, none⟩ ∧ w.heap[p]? = some (.cells zeroCells e (0, 0))
theorem NilD.below {w w' : World} {v : Option Addr} (h : NilD w v) (hb : Below w.heap.size w w') : NilD w' v := by
  rcases h with h | ⟨p, e, h1, h2⟩
  · exact .inl h
  · exact .inr ⟨p, e, h1, (hb.block p (heap_lt h2)).trans h2⟩
theorem there_nil {w : World} {v : Option Addr} (h : NilD w v) : Calls Try.prog 45 #[.pointer v] w fun e w' => e = .returned (.bool false) ∧ w = w' := by
  rcases h with rfl | ⟨p, e, rfl, h⟩
  · go_enter Try.func45, Try.ntmps45
    go_wp2
    go_ret
    exact ⟨rfl, rfl⟩
  · unfold zeroCells at h
    have hc := cell_of_heap h (i := 2) (v := .map none) (by rfl)
    have hq := fun w => run_eql_map (P := Try.prog) 61 _ _ none Try.underlying61 w
    go_enter Try.func45, Try.ntmps45
    go_wp2
    go_ret
    exact ⟨rfl, rfl⟩
theorem step_nil {w : World} {v : Option Addr} {nm f : Value} (h : NilD w v) : Calls Try.prog 34 #[.pointer v, nm, f] w fun e w' => e = .returned (.int .i64 1) ∧ w = w' := by
  have ht := there_nil h
  go_enter Try.func34, Try.ntmps34
  go_wp2_with (go_at_call 45; refine ht.mono ?_; rintro _ w1 ⟨rfl, rfl⟩)
  go_ret
  exact ⟨rfl, rfl⟩
theorem look_nil {w : World} {v : Option Addr} {nm f : Value} (h : NilD w v) : Calls Try.prog 52 #[.pointer v, nm, f] w fun e w' => e = .returned (.int .i64 1) ∧ w = w' := by
  have ht := there_nil h
  go_enter Try.func52, Try.ntmps52
  go_wp2_with (go_at_call 45; refine ht.mono ?_; rintro _ w1 ⟨rfl, rfl⟩)
  go_ret
  exact ⟨rfl, rfl⟩
theorem Create_nil {w : World} {v : Option Addr} {x : ByteArray} (h : NilD w v) : Calls Try.prog 17 #[.pointer v, .string x] w fun e w' => e = .returned (.int .i64 1) ∧ Below w.heap.size w w' := by
  have ht := fun W (hb : Below w.heap.size w W) => there_nil (h.below hb)
  go_enter Try.func17, Try.ntmps17
  go_wp2_with (first
    | (go_at_call 45; refine (ht _ (Below.refl _ _)).mono ?_; rintro _ w1 ⟨rfl, rfl⟩)
    | (go_at_call 45; refine (ht _ (below_alloc _ _)).mono ?_; rintro _ w1 ⟨rfl, rfl⟩)
    | (go_at_call 45; refine (ht _ ((below_alloc _ _).alloc (by simp) _)).mono ?_; rintro _ w1 ⟨rfl, rfl⟩))
  go_ret
  exact ⟨rfl, by first | exact Below.refl _ _ | exact below_alloc _ _ | exact (below_alloc _ _).alloc (by simp) _⟩
theorem SyncNames_nil {w : World} {v : Option Addr} (h : NilD w v) : Calls Try.prog 19 #[.pointer v] w fun e w' => e = .returned (.int .i64 1) ∧ Below w.heap.size w w' := by
  have ht := fun W (hb : Below w.heap.size w W) => there_nil (h.below hb)
  go_enter Try.func19, Try.ntmps19
  go_wp2_with (first
    | (go_at_call 45; refine (ht _ (Below.refl _ _)).mono ?_; rintro _ w1 ⟨rfl, rfl⟩)
    | (go_at_call 45; refine (ht _ (below_alloc _ _)).mono ?_; rintro _ w1 ⟨rfl, rfl⟩)
    | (go_at_call 45; refine (ht _ ((below_alloc _ _).alloc (by simp) _)).mono ?_; rintro _ w1 ⟨rfl, rfl⟩))
  go_ret
  exact ⟨rfl, by first | exact Below.refl _ _ | exact below_alloc _ _ | exact (below_alloc _ _).alloc (by simp) _⟩
theorem Names_nil {w : World} {v : Option Addr} (h : NilD w v) : Calls Try.prog 20 #[.pointer v] w fun e w' => e = .returned (.tuple #[.slice none 0 0, .int .i64 1]) ∧ Below w.heap.size w w' := by
  have ht := fun W (hb : Below w.heap.size w W) => there_nil (h.below hb)
  go_enter Try.func20, Try.ntmps20
  go_wp2_with (first
    | (go_at_call 45; refine (ht _ (Below.refl _ _)).mono ?_; rintro _ w1 ⟨rfl, rfl⟩)
    | (go_at_call 45; refine (ht _ (below_alloc _ _)).mono ?_; rintro _ w1 ⟨rfl, rfl⟩)
    | (go_at_call 45; refine (ht _ ((below_alloc _ _).alloc (by simp) _)).mono ?_; rintro _ w1 ⟨rfl, rfl⟩))
  go_ret2
  exact ⟨rfl, by first | exact Below.refl _ _ | exact below_alloc _ _ | exact (below_alloc _ _).alloc (by simp) _⟩
theorem Copy_nil {w : World} {v : Option Addr} (h : NilD w v) : Calls Try.prog 56 #[.pointer v] w fun e w' => e = .returned (.pointer none) ∧ Below w.heap.size w w' := by
  have ht := fun W (hb : Below w.heap.size w W) => there_nil (h.below hb)
  go_enter Try.func56, Try.ntmps56
  go_wp2_with (first
    | (go_at_call 45; refine (ht _ (Below.refl _ _)).mono ?_; rintro _ w1 ⟨rfl, rfl⟩)
    | (go_at_call 45; refine (ht _ (below_alloc _ _)).mono ?_; rintro _ w1 ⟨rfl, rfl⟩)
    | (go_at_call 45; refine (ht _ ((below_alloc _ _).alloc (by simp) _)).mono ?_; rintro _ w1 ⟨rfl, rfl⟩))
  go_ret
  exact ⟨rfl, by first | exact Below.refl _ _ | exact below_alloc _ _ | exact (below_alloc _ _).alloc (by simp) _⟩
theorem Stop_nil {w : World} {v : Option Addr} {a b c : Value} (h : NilD w v) : Calls Try.prog 21 #[.pointer v, .agg #[a, b, c]] w fun e w' => e = .returned (.pointer none) ∧ Below w.heap.size w w' := by
  have ht := fun W (hb : Below w.heap.size w W) => there_nil (h.below hb)
  go_enter Try.func21, Try.ntmps21
  go_wp2_with (first
    | (go_at_call 45; refine (ht _ (Below.refl _ _)).mono ?_; rintro _ w1 ⟨rfl, rfl⟩)
    | (go_at_call 45; refine (ht _ (below_alloc _ _)).mono ?_; rintro _ w1 ⟨rfl, rfl⟩)
    | (go_at_call 45; refine (ht _ ((below_alloc _ _).alloc (by simp) _)).mono ?_; rintro _ w1 ⟨rfl, rfl⟩))
  go_ret
  exact ⟨rfl, by first | exact Below.refl _ _ | exact below_alloc _ _ | exact (below_alloc _ _).alloc (by simp) _⟩
theorem Write_nil {w : World} {v : Option Addr} {x : ByteArray} {i : Int} {a : Option Addr} {l c : Nat} (h : NilD w v) : Calls Try.prog 12 #[.pointer v, .string x, .int .i64 i, .slice a l c] w fun e w' => e = .returned (.int .i64 1) ∧ Below w.heap.size w w' := by
  have hs := fun (W : World) (x f : Value) (hb : Below w.heap.size w W) => step_nil (nm := x) (f := f) (h.below hb)
  have ht := fun W (hb : Below w.heap.size w W) => there_nil (h.below hb)
  go_enter Try.func12, Try.ntmps12
  go_wp2_with (first
    | (go_at_call 34; refine (hs _ _ _ (((below_alloc _ _).alloc (by simp) _).alloc (by simp; omega) _)).mono ?_; rintro _ w1 ⟨rfl, rfl⟩)
    | (go_at_call 45; refine (ht _ (((below_alloc _ _).alloc (by simp) _).alloc (by simp; omega) _)).mono ?_; rintro _ w1 ⟨rfl, rfl⟩))
  go_ret
  exact ⟨rfl, ((below_alloc _ _).alloc (by simp) _).alloc (by simp; omega) _⟩
theorem Cut_nil {w : World} {v : Option Addr} {x : ByteArray} {i : Int} (h : NilD w v) : Calls Try.prog 14 #[.pointer v, .string x, .int .i64 i] w fun e w' => e = .returned (.int .i64 1) ∧ Below w.heap.size w w' := by
  have hs := fun (W : World) (x f : Value) (hb : Below w.heap.size w W) => step_nil (nm := x) (f := f) (h.below hb)
  have ht := fun W (hb : Below w.heap.size w W) => there_nil (h.below hb)
  go_enter Try.func14, Try.ntmps14
  go_wp2_with (first
    | (go_at_call 34; refine (hs _ _ _ ((below_alloc _ _).alloc (by simp) _)).mono ?_; rintro _ w1 ⟨rfl, rfl⟩)
    | (go_at_call 45; refine (ht _ ((below_alloc _ _).alloc (by simp) _)).mono ?_; rintro _ w1 ⟨rfl, rfl⟩))
  go_ret
  exact ⟨rfl, (below_alloc _ _).alloc (by simp) _⟩
theorem Sync_nil {w : World} {v : Option Addr} {x : ByteArray} (h : NilD w v) : Calls Try.prog 18 #[.pointer v, .string x] w fun e w' => e = .returned (.int .i64 1) ∧ Below w.heap.size w w' := by
  have hs := fun (W : World) (x f : Value) (hb : Below w.heap.size w W) => step_nil (nm := x) (f := f) (h.below hb)
  have ht := fun W (hb : Below w.heap.size w W) => there_nil (h.below hb)
  go_enter Try.func18, Try.ntmps18
  go_wp2_with (first
    | (go_at_call 34; refine (hs _ _ _ (below_alloc _ _)).mono ?_; rintro _ w1 ⟨rfl, rfl⟩)
    | (go_at_call 45; refine (ht _ (below_alloc _ _)).mono ?_; rintro _ w1 ⟨rfl, rfl⟩))
  go_ret
  exact ⟨rfl, below_alloc _ _⟩
theorem Rename_nil {w : World} {v : Option Addr} {x y : ByteArray} (h : NilD w v) : Calls Try.prog 44 #[.pointer v, .string x, .string y] w fun e w' => e = .returned (.int .i64 1) ∧ Below w.heap.size w w' := by
  have hs := fun (W : World) (x f : Value) (hb : Below w.heap.size w W) => step_nil (nm := x) (f := f) (h.below hb)
  have ht := fun W (hb : Below w.heap.size w W) => there_nil (h.below hb)
  go_enter Try.func44, Try.ntmps44
  go_wp2_with (first
    | (go_at_call 34; refine (hs _ _ _ (((below_alloc _ _).alloc (by simp) _).alloc (by simp; omega) _)).mono ?_; rintro _ w1 ⟨rfl, rfl⟩)
    | (go_at_call 45; refine (ht _ (((below_alloc _ _).alloc (by simp) _).alloc (by simp; omega) _)).mono ?_; rintro _ w1 ⟨rfl, rfl⟩))
  go_ret
  exact ⟨rfl, ((below_alloc _ _).alloc (by simp) _).alloc (by simp; omega) _⟩
theorem Remove_nil {w : World} {v : Option Addr} {x : ByteArray} (h : NilD w v) : Calls Try.prog 13 #[.pointer v, .string x] w fun e w' => e = .returned (.int .i64 1) ∧ Below w.heap.size w w' := by
  have hs := fun (W : World) (x f : Value) (hb : Below w.heap.size w W) => step_nil (nm := x) (f := f) (h.below hb)
  have ht := fun W (hb : Below w.heap.size w W) => there_nil (h.below hb)
  go_enter Try.func13, Try.ntmps13
  go_wp2_with (first
    | (go_at_call 34; refine (hs _ _ _ ((below_alloc _ _).alloc (by simp) _)).mono ?_; rintro _ w1 ⟨rfl, rfl⟩)
    | (go_at_call 45; refine (ht _ ((below_alloc _ _).alloc (by simp) _)).mono ?_; rintro _ w1 ⟨rfl, rfl⟩))
  go_ret
  exact ⟨rfl, (below_alloc _ _).alloc (by simp) _⟩
theorem Read_nil {w : World} {v : Option Addr} {x : ByteArray} {i j : Int} (h : NilD w v) : Calls Try.prog 22 #[.pointer v, .string x, .int .i64 i, .int .i64 j] w fun e w' => e = .returned (.tuple #[.slice none 0 0, .int .i64 1]) ∧ Below w.heap.size w w' := by
  have hs := fun (W : World) (x f : Value) (hb : Below w.heap.size w W) => look_nil (nm := x) (f := f) (h.below hb)
  have ht := fun W (hb : Below w.heap.size w W) => there_nil (h.below hb)
  go_enter Try.func22, Try.ntmps22
  go_wp2_with (first
    | (go_at_call 52; refine (hs _ _ _ (((below_alloc _ _).alloc (by simp) _).alloc (by simp; omega) _)).mono ?_; rintro _ w1 ⟨rfl, rfl⟩)
    | (go_at_call 45; refine (ht _ (((below_alloc _ _).alloc (by simp) _).alloc (by simp; omega) _)).mono ?_; rintro _ w1 ⟨rfl, rfl⟩))
  go_ret2
  exact ⟨rfl, ((below_alloc _ _).alloc (by simp) _).alloc (by simp; omega) _⟩
theorem Size_nil {w : World} {v : Option Addr} {x : ByteArray} (h : NilD w v) : Calls Try.prog 54 #[.pointer v, .string x] w fun e w' => e = .returned (.tuple #[.int .i64 0, .int .i64 1]) ∧ Below w.heap.size w w' := by
  have hs := fun (W : World) (x f : Value) (hb : Below w.heap.size w W) => look_nil (nm := x) (f := f) (h.below hb)
  have ht := fun W (hb : Below w.heap.size w W) => there_nil (h.below hb)
  go_enter Try.func54, Try.ntmps54
  go_wp2_with (first
    | (go_at_call 52; refine (hs _ _ _ (below_alloc _ _)).mono ?_; rintro _ w1 ⟨rfl, rfl⟩)
    | (go_at_call 45; refine (ht _ (below_alloc _ _)).mono ?_; rintro _ w1 ⟨rfl, rfl⟩))
  go_ret2
  exact ⟨rfl, below_alloc _ _⟩

theorem each_v (a : Option Addr) (w : World) : Calls Try.prog 58 #[.pointer a] w fun e w' =>
    e = .returned (.func (.func 71) #[] #[.pointer (some ⟨w.heap.size, 0, none⟩)]) ∧ w' = w.alloc (.cells #[.pointer a] 24) := by
  go_enter Try.func58, Try.ntmps58
  go_wp2
  go_ret
  exact ⟨rfl, rfl⟩
theorem Capacity_nil {w : World} {v : Option Addr} (h : NilD w v) : Calls Try.prog 55 #[.pointer v] w fun e w' => e = .returned (.int .i64 0) ∧ Below w.heap.size w w' := by
  rcases h with rfl | ⟨p, e, rfl, h⟩
  · go_enter Try.func55, Try.ntmps55
    go_wp2
    go_ret
    exact ⟨rfl, Below.refl _ _⟩
  · unfold zeroCells at h
    have c0 := cell_of_heap h (i := 0) (v := .int .i64 0) (by rfl)
    go_enter Try.func55, Try.ntmps55
    go_wp2
    go_ret
    exact ⟨rfl, Below.refl _ _⟩
theorem Steps_nil {w : World} {v : Option Addr} (h : NilD w v) : Calls Try.prog 28 #[.pointer v] w fun e w' => e = .returned (.int .i64 0) ∧ Below w.heap.size w w' := by
  rcases h with rfl | ⟨p, e, rfl, h⟩
  · go_enter Try.func28, Try.ntmps28
    go_wp2
    go_ret
    exact ⟨rfl, Below.refl _ _⟩
  · unfold zeroCells at h
    have c0 := cell_of_heap h (i := 6) (v := .int .i64 0) (by rfl)
    go_enter Try.func28, Try.ntmps28
    go_wp2
    go_ret
    exact ⟨rfl, Below.refl _ _⟩

end Go.Proofs.Ytgckcnnnblggbaa
/- Disk: a disk that is not there, and a zero one: Files. -/
namespace Go.Proofs.Ytgckcnnnblggbaa
open Go.RowKit Go.Maps Go.Shelf
set_option maxRecDepth 1000000

def noItem (i : Fin 0) : Array Value := i.elim0
set_option maxHeartbeats 4000000 in
theorem each1_nil (n : Nat) (hn : 1 ≤ n) {w : World} {v : Option Addr} (h : NilD w v) {bd : Nat} (hbd : Boxed w bd 24 (.pointer v)) (hi : Nat) (kt : TypeId → Prop) :
    SeqStopsK Fence.wide n Try.prog 71 #[.pointer (some ⟨bd, 0, none⟩)] noItem (KpT hi kt) (fun xs => xs = []) (fun pre => pre <+: []) 0 w := by
  intro l J Jx W hW hJ hJx hY h0
  have hbx : Boxed W bd 24 (.pointer v) := (hW.block bd hbd.lt).trans hbd
  have cN := (callsIn_wide (n := n - 1)).2 (Names_nil (h.below hW))
  refine callsIn_of_wp Try.func71 rfl trivial ?_ rfl
  simp only [Try.ntmps71, List.size_toArray, List.length_cons, List.length_nil, Nat.reduceAdd, Nat.reduceSub, Array.replicate_succ, Array.replicate_zero, List.push_toArray, List.append_toArray, List.nil_append, List.cons_append]
  clear hY
  have c5 := hbx.cell
  have hf20 : Fence.wide.fn 20 := trivial
  gi_wp2_with (gi_at_call 20; refine cN.mono ?_; rintro e1 W1 ⟨rfl, hb1⟩)
  have hJ1 : J [] W1 := hJ [] W W1 none h0 (Below.grownBy hb1) (fun r e => by cases e)
  gi_loopw [14] (fun i wr => i = .int .i64 0 ∧ J [] wr) (fun _ _ => 0)
  case atStart => exact ⟨rfl, hJ1⟩
  case round =>
    obtain ⟨rfl, hJs⟩ := hrel
    gi_wp2
    go_end0
    exact ⟨⟨_, rfl⟩, .inl ⟨_, rfl, hJs⟩⟩

set_option maxHeartbeats 4000000 in
theorem Files_nil {w : World} {v : Option Addr} (h : NilD w v) :
    Calls Try.prog 31 #[.pointer v] w fun e w' => ∃ u cs, e = .returned u ∧ FilesAt w' w.heap.size (w.heap.size + 1) u cs [] ∧ Below w.heap.size w w' := by
  refine (callsIn_wide (n := 6)).1 ?_
  have cE := fun w => (callsIn_wide (n := 5)).2 (each_v v w)
  refine callsIn_of_wp_marks Try.func31 rfl trivial ?_ rfl
  simp only [Try.ntmps31, List.size_toArray, List.length_cons, List.length_nil, Nat.reduceAdd, Nat.reduceSub, Array.replicate_succ, Array.replicate_zero, List.push_toArray, List.append_toArray, List.nil_append, List.cons_append]
  have hf58 : Fence.wide.fn 58 := trivial
  gi_wp2_with (gi_at_call 58; refine (cE _).mono ?_; rintro e1 W1 ⟨rfl, rfl⟩)
  obtain ⟨w3, hw3⟩ : ∃ w3, ((w.alloc (.cells #[] 30)).alloc (.cells #[.slice (some ⟨w.heap.size, 0, none⟩) 0 0] 39)).alloc (.cells #[.pointer v] 24) = w3 := ⟨_, rfl⟩
  have hb3 : Below w.heap.size w w3 := by rw [← hw3]; exact ((below_alloc w _).alloc (by simp) _).alloc (by simp; omega) _
  have hz3 : w3.heap.size = w.heap.size + 3 := by rw [← hw3]; simp
  have hbo : Boxed w3 (w.heap.size + 1) 39 (.slice (some ⟨w.heap.size, 0, none⟩) 0 0) := by rw [← hw3]; have := (Boxed.new (w.alloc (.cells #[] 30)) 39 (.slice (some ⟨w.heap.size, 0, none⟩) 0 0)).alloc (.cells #[.pointer v] 24); rwa [World.size_alloc] at this
  have hbd : Boxed w3 (w.heap.size + 1 + 1) 24 (.pointer v) := by rw [← hw3]; have := Boxed.new ((w.alloc (.cells #[] 30)).alloc (.cells #[.slice (some ⟨w.heap.size, 0, none⟩) 0 0] 39)) 24 (.pointer v); rwa [World.size_alloc, World.size_alloc] at this
  have hrow0 : w3.heap[w.heap.size]? = some (.cells #[] 30 (0, 0)) := by rw [← hw3]; exact (Below.heap_alloc _ _ _ (by simp; omega)).trans ((Below.heap_alloc _ _ _ (by simp)).trans (World.alloc_heap_new w _))
  rw [hw3]
  clear hw3
  have h3 := h.below hb3
  have hF0 : FilesAt w3 w.heap.size (w.heap.size + 1) (.slice (some ⟨w.heap.size, 0, none⟩) 0 0) [] [] :=
    ⟨⟨rfl, .inr ⟨w.heap.size, 0, #[], rfl, Nat.le_refl _, hrow0, Nat.le_refl _, Nat.zero_le _, rfl, rfl⟩⟩, rfl, fun i c d hc => by simp at hc⟩
  refine wpIn_rangeFunc_ownF rfl (by omega) (gf := 71) (lb := #[.pointer (some ⟨w.heap.size + 1 + 1, 0, none⟩)]) rfl trivial (enters_of Try.func71 (by kernel_rfl) rfl)
    (each1_nil 5 (by omega) h3 hbd w.heap.size (fun t => t ≠ 30 ∧ t ≠ 39)) (fun h k => h.trans k) (fun W l o o' hl ho hc _ => KpT.putObj W l o o' (by omega) ho hc) (Below.refl _ _) (fun i => i.elim0)
    (fun (pre : List (Fin 0)) W => Below w.heap.size w W ∧ Boxed W (w.heap.size + 1) 39 (.slice (some ⟨w.heap.size, 0, none⟩) 0 0) ∧ FilesAt W w.heap.size (w.heap.size + 1) (.slice (some ⟨w.heap.size, 0, none⟩) 0 0) [] []) (fun _ _ _ => False)
    (fun ps W W' row ⟨h1, h2, h3⟩ hg hr => ⟨h1.grown hg h1.size (fun k e => by have := (hr k e).1; omega), boxed_from h2 hg hr, h3.from hg (fun r e => (hr r e).2)⟩) (fun _ _ _ _ _ h _ _ => h) ⟨hb3, hbo, hF0⟩
    (fun x => x.elim0) ?assign ?body ?done ?stop
  case assign => intro l x W K hK; exact x.elim0
  case body => intro l pre x; exact x.elim0
  case stop =>
    rintro Dd c pre W _ _ h _
    exact h.elim
  case done =>
    rintro Dd xs W hD rfl ⟨h1, h2, h5⟩ hK
    have c2 := h2.cell
    have hDd := heap_lt hK
    gi_wp2
    refine ⟨by simp, .inl ⟨_, _, rfl, run_takeDeferred hK, ?_⟩⟩
    have hg : W.grownBy (W.putObj Dd (.deferred none)) (some Dd) := grownBy_putObj' W Dd _
    exact ⟨_, results_tmp (t := 2) rfl _ _ _, _, [], rfl, h5.from hg (fun r e => by cases e; exact ⟨_, hK, rfl⟩), h1.grown hg h1.size (fun k e => by cases e; omega)⟩

end Go.Proofs.Ytgckcnnnblggbaa
/- Disk: a disk that is not there, and a zero one: used, Room, Pending, the document's Files, goes. -/
namespace Go.Proofs.Ytgckcnnnblggbaa
open Go.RowKit Go.Maps Go.Shelf
set_option maxRecDepth 1000000

theorem used_nil {w : World} {p : Nat} {e : TypeId} (h : w.heap[p]? = some (.cells zeroCells e (0, 0))) : Calls Try.prog 36 #[.pointer (some ⟨p, 0, none⟩)] w fun e w' => e = .returned (.int .i64 0) ∧ Below w.heap.size w w' := by
  unfold zeroCells at h
  have c2 := cell_of_heap h (i := 2) (v := .map none) (by rfl)
  have hr := fun (w : World) => run_range_nilMap (P := Try.prog) w 61 _ _ Try.underlying61
  have hn := fun (w : World) (ty : TypeId) (s : Array Nat) => run_next_nilMap (P := Try.prog) w ty 0 0 s
  go_enter Try.func36, Try.ntmps36
  go_wp2_with fail
  refine wp_loop_rounds 1 ?_
  rw [rounds_succ]
  go_wp2
  go_ret
  exact ⟨rfl, below_alloc _ _⟩
theorem Room_nil {w : World} {v : Option Addr} (h : NilD w v) : Calls Try.prog 29 #[.pointer v] w fun e w' => e = .returned (.int .i64 0) ∧ Below w.heap.size w w' := by
  rcases h with rfl | ⟨p, e, rfl, h⟩
  · go_enter Try.func29, Try.ntmps29
    go_wp2
    go_ret
    exact ⟨rfl, Below.refl _ _⟩
  · have c0 := cell_of_heap h (i := 0) (v := .int .i64 0) (by rfl)
    have hU := fun d os => Calls.regrown_of (used_nil ((below_regrown w d os).block p (heap_lt h) |>.trans h))
    have k0 := cell_regrown c0
    go_enter Try.func29, Try.ntmps29
    go_wp2
    refine wp_region_quiet_belowP rfl (by kernel_rfl) ?_
    repeat (quiet_step (exact hU _ _))
    refine wpQuiet_nil ?_
    intro w4 hb4
    go_wp2
    go_ret
    exact ⟨rfl, hb4⟩
theorem Pending_nil {w : World} {v : Option Addr} (h : NilD w v) : Calls Try.prog 27 #[.pointer v] w fun e w' => e = .returned (.tuple #[.int .i64 0, .int .i64 0]) ∧ Below w.heap.size w w' := by
  rcases h with rfl | ⟨p, e, rfl, h⟩
  · go_enter Try.func27, Try.ntmps27
    go_wp2
    go_ret2
    exact ⟨rfl, Below.refl _ _⟩
  · unfold zeroCells at h
    have c4 := cell_of_heap h (i := 4) (v := .slice none 0 0) (by rfl)
    have c5 := cell_of_heap h (i := 5) (v := .slice none 0 0) (by rfl)
    go_enter Try.func27, Try.ntmps27
    go_wp2
    go_quiet (fail)
    go_wp2
    go_ret2
    exact ⟨rfl, below_drewN (Below.refl _ _) _⟩
theorem rFiles_nil (w : World) : Calls Try.prog 70 #[.pointer none] w fun e w' => ∃ fa fc, e = .returned (.slice fa 0 fc) ∧ FilesRd w' fa [] ∧ Below w.heap.size w w' := by
  go_enter Try.func70, Try.ntmps70
  go_wp2_with fail
  refine wp_loop_rounds 1 ?_
  rw [rounds_succ]
  go_wp2
  go_ret
  exact ⟨_, _, rfl, FilesRd.nil _ _, Below.refl _ _⟩
theorem goes_nil {w : World} {v : Option Addr} (h : NilD w v) (leave : Int) : Calls Try.prog 57 #[.pointer v, .pointer none, .int .i64 leave] w fun e w' => e = .returned (.bool true) ∧ Below w.heap.size w w' :=
  goes_any (L := []) (by decide) leave (fun W hW => Files_nil (h.below hW)) (fun W _ => rFiles_nil W)

end Go.Proofs.Ytgckcnnnblggbaa
/- Disk: nothing: what a disk that is not there, or a zero one, answers. -/
namespace Go.Proofs.Ytgckcnnnblggbaa
open Go.RowKit Go.Maps Go.Shelf
set_option maxRecDepth 1000000

theorem Files_nil' {w : World} {v : Option Addr} (h : NilD w v) : Calls Try.prog 31 #[.pointer v] w fun e w' => ∃ fa fc, e = .returned (.slice fa 0 fc) ∧ Below w.heap.size w w' :=
  (Files_nil h).mono fun e w' ⟨u, cs, k1, k2, k3⟩ => by
    obtain ⟨fa, fc, rfl, _⟩ := FilesRd.of_at k2
    exact ⟨fa, fc, k1, k3⟩
set_option maxHeartbeats 4000000 in
theorem nothing_true {w : World} {v : Option Addr} (h : NilD w v) : Calls Try.prog 26 #[.pointer v] w fun e w' => e = .returned (.bool true) ∧ Below w.heap.size w w' := by
  have B : Below w.heap.size w w := Below.refl _ _
  have cN := num_any
  go_enter Try.func26, Try.ntmps26
  go_wp2_with (first
    | (go_at_call 11; refine (cN _ _).mono ?_; rintro _ wn ⟨rfl, rfl⟩)
    | (go_at_call 20; refine (Names_nil (h.below B)).mono ?_; rintro _ wn ⟨rfl, B2⟩; have B := B.trans (B2.mono B.size); clear B2)
    | (go_at_call 22; refine (Read_nil (h.below B)).mono ?_; rintro _ wn ⟨rfl, B2⟩; have B := B.trans (B2.mono B.size); clear B2)
    | (go_at_call 54; refine (Size_nil (h.below B)).mono ?_; rintro _ wn ⟨rfl, B2⟩; have B := B.trans (B2.mono B.size); clear B2)
    | (go_at_call 27; refine (Pending_nil (h.below B)).mono ?_; rintro _ wn ⟨rfl, B2⟩; have B := B.trans (B2.mono B.size); clear B2)
    | (go_at_call 17; refine (Create_nil (h.below B)).mono ?_; rintro _ wn ⟨rfl, B2⟩; have B := B.trans (B2.mono B.size); clear B2)
    | (go_at_call 12; refine (Write_nil (h.below B)).mono ?_; rintro _ wn ⟨rfl, B2⟩; have B := B.trans (B2.mono B.size); clear B2)
    | (go_at_call 14; refine (Cut_nil (h.below B)).mono ?_; rintro _ wn ⟨rfl, B2⟩; have B := B.trans (B2.mono B.size); clear B2)
    | (go_at_call 18; refine (Sync_nil (h.below B)).mono ?_; rintro _ wn ⟨rfl, B2⟩; have B := B.trans (B2.mono B.size); clear B2)
    | (go_at_call 19; refine (SyncNames_nil (h.below B)).mono ?_; rintro _ wn ⟨rfl, B2⟩; have B := B.trans (B2.mono B.size); clear B2)
    | (go_at_call 44; refine (Rename_nil (h.below B)).mono ?_; rintro _ wn ⟨rfl, B2⟩; have B := B.trans (B2.mono B.size); clear B2)
    | (go_at_call 13; refine (Remove_nil (h.below B)).mono ?_; rintro _ wn ⟨rfl, B2⟩; have B := B.trans (B2.mono B.size); clear B2)
    | (go_at_call 55; refine (Capacity_nil (h.below B)).mono ?_; rintro _ wn ⟨rfl, B2⟩; have B := B.trans (B2.mono B.size); clear B2)
    | (go_at_call 29; refine (Room_nil (h.below B)).mono ?_; rintro _ wn ⟨rfl, B2⟩; have B := B.trans (B2.mono B.size); clear B2)
    | (go_at_call 28; refine (Steps_nil (h.below B)).mono ?_; rintro _ wn ⟨rfl, B2⟩; have B := B.trans (B2.mono B.size); clear B2)
    | (go_at_call 21; refine (Stop_nil (h.below B)).mono ?_; rintro _ wn ⟨rfl, B2⟩; have B := B.trans (B2.mono B.size); clear B2)
    | (go_at_call 56; refine (Copy_nil (h.below B)).mono ?_; rintro _ wn ⟨rfl, B2⟩; have B := B.trans (B2.mono B.size); clear B2)
    | (go_at_call 31; refine (Files_nil' (h.below B)).mono ?_; rintro _ wn ⟨fa, fc, rfl, B2⟩; have B := B.trans (B2.mono B.size); clear B2)
    | (go_at_call 57; refine (goes_nil (h.below B) 0).mono ?_; rintro _ wn ⟨rfl, B2⟩; have B := B.trans (B2.mono B.size); clear B2))
  go_ret
  exact ⟨rfl, B⟩

end Go.Proofs.Ytgckcnnnblggbaa
