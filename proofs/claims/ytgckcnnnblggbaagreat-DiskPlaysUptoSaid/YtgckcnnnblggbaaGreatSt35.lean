/- Texts of this claim, one behind the other: DnA, DlQ, DnB. -/
import Derived.Test.YtgckcnnnblggbaaGreatSt32
import Derived.Test.YtgckcnnnblggbaaGreatSt19
set_option linter.unusedSimpArgs false
set_option linter.unusedVariables false
/- Disk: a disk that is not there, and a zero one: the methods. -/
namespace Go.Proofs.YtgckcnnnblggbaaGreat
open Go.RowKit Go.Maps
set_option maxRecDepth 1000000

def zeroCells : Array Value := #[.int .i64 0, .map none, .map none, .map none, .slice none 0 0, .slice none 0 0, .int .i64 0]
/-- a disk that is not there, or a zero one -/
def NilD (w : World) (v : Option Addr) : Prop := v = none ∨ ∃ p e, v = some ⟨p, 0, none⟩ ∧ w.heap[p]? = some (.cells zeroCells e (0, 0))
theorem NilD.below {w w' : World} {v : Option Addr} (h : NilD w v) (hb : Below w.heap.size w w') : NilD w' v := by
  rcases h with h | ⟨p, e, h1, h2⟩
  · exact .inl h
  · exact .inr ⟨p, e, h1, (hb.block p (heap_lt h2)).trans h2⟩
theorem there_nil {w : World} {v : Option Addr} (h : NilD w v) : Calls Tryz.prog 56 #[.pointer v] w fun e w' => e = .returned (.bool false) ∧ w = w' := by
  rcases h with rfl | ⟨p, e, rfl, h⟩
  · go_enter Tryz.func56, Tryz.ntmps56
    go_wp2
    go_ret
    exact ⟨rfl, rfl⟩
  · unfold zeroCells at h
    have hc := cell_of_heap h (i := 2) (v := .map none) (by rfl)
    have hq := fun w => run_eql_map (P := Tryz.prog) 70 _ _ none Tryz.underlying70 w
    go_enter Tryz.func56, Tryz.ntmps56
    go_wp2
    go_ret
    exact ⟨rfl, rfl⟩
theorem step_nil {w : World} {v : Option Addr} {nm f : Value} (h : NilD w v) : Calls Tryz.prog 77 #[.pointer v, nm, f] w fun e w' => e = .returned (.int .i64 1) ∧ w = w' := by
  have ht := there_nil h
  go_enter Tryz.func77, Tryz.ntmps77
  go_wp2_with (go_at_call 56; refine ht.mono ?_; rintro _ w1 ⟨rfl, rfl⟩)
  go_ret
  exact ⟨rfl, rfl⟩
theorem look_nil {w : World} {v : Option Addr} {nm f : Value} (h : NilD w v) : Calls Tryz.prog 93 #[.pointer v, nm, f] w fun e w' => e = .returned (.int .i64 1) ∧ w = w' := by
  have ht := there_nil h
  go_enter Tryz.func93, Tryz.ntmps93
  go_wp2_with (go_at_call 56; refine ht.mono ?_; rintro _ w1 ⟨rfl, rfl⟩)
  go_ret
  exact ⟨rfl, rfl⟩
theorem Create_nil {w : World} {v : Option Addr} {x : ByteArray} (h : NilD w v) : Calls Tryz.prog 34 #[.pointer v, .string x] w fun e w' => e = .returned (.int .i64 1) ∧ Below w.heap.size w w' := by
  have ht := fun W (hb : Below w.heap.size w W) => there_nil (h.below hb)
  go_enter Tryz.func34, Tryz.ntmps34
  go_wp2_with (first
    | (go_at_call 56; refine (ht _ (Below.refl _ _)).mono ?_; rintro _ w1 ⟨rfl, rfl⟩)
    | (go_at_call 56; refine (ht _ (below_alloc _ _)).mono ?_; rintro _ w1 ⟨rfl, rfl⟩)
    | (go_at_call 56; refine (ht _ ((below_alloc _ _).alloc (by simp) _)).mono ?_; rintro _ w1 ⟨rfl, rfl⟩))
  go_ret
  exact ⟨rfl, by first | exact Below.refl _ _ | exact below_alloc _ _ | exact (below_alloc _ _).alloc (by simp) _⟩
theorem SyncNames_nil {w : World} {v : Option Addr} (h : NilD w v) : Calls Tryz.prog 45 #[.pointer v] w fun e w' => e = .returned (.int .i64 1) ∧ Below w.heap.size w w' := by
  have ht := fun W (hb : Below w.heap.size w W) => there_nil (h.below hb)
  go_enter Tryz.func45, Tryz.ntmps45
  go_wp2_with (first
    | (go_at_call 56; refine (ht _ (Below.refl _ _)).mono ?_; rintro _ w1 ⟨rfl, rfl⟩)
    | (go_at_call 56; refine (ht _ (below_alloc _ _)).mono ?_; rintro _ w1 ⟨rfl, rfl⟩)
    | (go_at_call 56; refine (ht _ ((below_alloc _ _).alloc (by simp) _)).mono ?_; rintro _ w1 ⟨rfl, rfl⟩))
  go_ret
  exact ⟨rfl, by first | exact Below.refl _ _ | exact below_alloc _ _ | exact (below_alloc _ _).alloc (by simp) _⟩
theorem Names_nil {w : World} {v : Option Addr} (h : NilD w v) : Calls Tryz.prog 62 #[.pointer v] w fun e w' => e = .returned (.tuple #[.slice none 0 0, .int .i64 1]) ∧ Below w.heap.size w w' := by
  have ht := fun W (hb : Below w.heap.size w W) => there_nil (h.below hb)
  go_enter Tryz.func62, Tryz.ntmps62
  go_wp2_with (first
    | (go_at_call 56; refine (ht _ (Below.refl _ _)).mono ?_; rintro _ w1 ⟨rfl, rfl⟩)
    | (go_at_call 56; refine (ht _ (below_alloc _ _)).mono ?_; rintro _ w1 ⟨rfl, rfl⟩)
    | (go_at_call 56; refine (ht _ ((below_alloc _ _).alloc (by simp) _)).mono ?_; rintro _ w1 ⟨rfl, rfl⟩))
  go_ret2
  exact ⟨rfl, by first | exact Below.refl _ _ | exact below_alloc _ _ | exact (below_alloc _ _).alloc (by simp) _⟩
theorem Copy_nil {w : World} {v : Option Addr} (h : NilD w v) : Calls Tryz.prog 27 #[.pointer v] w fun e w' => e = .returned (.pointer none) ∧ Below w.heap.size w w' := by
  have ht := fun W (hb : Below w.heap.size w W) => there_nil (h.below hb)
  go_enter Tryz.func27, Tryz.ntmps27
  go_wp2_with (first
    | (go_at_call 56; refine (ht _ (Below.refl _ _)).mono ?_; rintro _ w1 ⟨rfl, rfl⟩)
    | (go_at_call 56; refine (ht _ (below_alloc _ _)).mono ?_; rintro _ w1 ⟨rfl, rfl⟩)
    | (go_at_call 56; refine (ht _ ((below_alloc _ _).alloc (by simp) _)).mono ?_; rintro _ w1 ⟨rfl, rfl⟩))
  go_ret
  exact ⟨rfl, by first | exact Below.refl _ _ | exact below_alloc _ _ | exact (below_alloc _ _).alloc (by simp) _⟩
theorem Stop_nil {w : World} {v : Option Addr} {a b c : Value} (h : NilD w v) : Calls Tryz.prog 10 #[.pointer v, .agg #[a, b, c]] w fun e w' => e = .returned (.pointer none) ∧ Below w.heap.size w w' := by
  have ht := fun W (hb : Below w.heap.size w W) => there_nil (h.below hb)
  go_enter Tryz.func10, Tryz.ntmps10
  go_wp2_with (first
    | (go_at_call 56; refine (ht _ (Below.refl _ _)).mono ?_; rintro _ w1 ⟨rfl, rfl⟩)
    | (go_at_call 56; refine (ht _ (below_alloc _ _)).mono ?_; rintro _ w1 ⟨rfl, rfl⟩)
    | (go_at_call 56; refine (ht _ ((below_alloc _ _).alloc (by simp) _)).mono ?_; rintro _ w1 ⟨rfl, rfl⟩))
  go_ret
  exact ⟨rfl, by first | exact Below.refl _ _ | exact below_alloc _ _ | exact (below_alloc _ _).alloc (by simp) _⟩
theorem Write_nil {w : World} {v : Option Addr} {x : ByteArray} {i : Int} {a : Option Addr} {l c : Nat} (h : NilD w v) : Calls Tryz.prog 37 #[.pointer v, .string x, .int .i64 i, .slice a l c] w fun e w' => e = .returned (.int .i64 1) ∧ Below w.heap.size w w' := by
  have hs := fun (W : World) (x f : Value) (hb : Below w.heap.size w W) => step_nil (nm := x) (f := f) (h.below hb)
  have ht := fun W (hb : Below w.heap.size w W) => there_nil (h.below hb)
  go_enter Tryz.func37, Tryz.ntmps37
  go_wp2_with (first
    | (go_at_call 77; refine (hs _ _ _ (((below_alloc _ _).alloc (by simp) _).alloc (by simp; omega) _)).mono ?_; rintro _ w1 ⟨rfl, rfl⟩)
    | (go_at_call 56; refine (ht _ (((below_alloc _ _).alloc (by simp) _).alloc (by simp; omega) _)).mono ?_; rintro _ w1 ⟨rfl, rfl⟩))
  go_ret
  exact ⟨rfl, ((below_alloc _ _).alloc (by simp) _).alloc (by simp; omega) _⟩
theorem Cut_nil {w : World} {v : Option Addr} {x : ByteArray} {i : Int} (h : NilD w v) : Calls Tryz.prog 41 #[.pointer v, .string x, .int .i64 i] w fun e w' => e = .returned (.int .i64 1) ∧ Below w.heap.size w w' := by
  have hs := fun (W : World) (x f : Value) (hb : Below w.heap.size w W) => step_nil (nm := x) (f := f) (h.below hb)
  have ht := fun W (hb : Below w.heap.size w W) => there_nil (h.below hb)
  go_enter Tryz.func41, Tryz.ntmps41
  go_wp2_with (first
    | (go_at_call 77; refine (hs _ _ _ ((below_alloc _ _).alloc (by simp) _)).mono ?_; rintro _ w1 ⟨rfl, rfl⟩)
    | (go_at_call 56; refine (ht _ ((below_alloc _ _).alloc (by simp) _)).mono ?_; rintro _ w1 ⟨rfl, rfl⟩))
  go_ret
  exact ⟨rfl, (below_alloc _ _).alloc (by simp) _⟩
theorem Sync_nil {w : World} {v : Option Addr} {x : ByteArray} (h : NilD w v) : Calls Tryz.prog 43 #[.pointer v, .string x] w fun e w' => e = .returned (.int .i64 1) ∧ Below w.heap.size w w' := by
  have hs := fun (W : World) (x f : Value) (hb : Below w.heap.size w W) => step_nil (nm := x) (f := f) (h.below hb)
  have ht := fun W (hb : Below w.heap.size w W) => there_nil (h.below hb)
  go_enter Tryz.func43, Tryz.ntmps43
  go_wp2_with (first
    | (go_at_call 77; refine (hs _ _ _ (below_alloc _ _)).mono ?_; rintro _ w1 ⟨rfl, rfl⟩)
    | (go_at_call 56; refine (ht _ (below_alloc _ _)).mono ?_; rintro _ w1 ⟨rfl, rfl⟩))
  go_ret
  exact ⟨rfl, below_alloc _ _⟩
theorem Rename_nil {w : World} {v : Option Addr} {x y : ByteArray} (h : NilD w v) : Calls Tryz.prog 47 #[.pointer v, .string x, .string y] w fun e w' => e = .returned (.int .i64 1) ∧ Below w.heap.size w w' := by
  have hs := fun (W : World) (x f : Value) (hb : Below w.heap.size w W) => step_nil (nm := x) (f := f) (h.below hb)
  have ht := fun W (hb : Below w.heap.size w W) => there_nil (h.below hb)
  go_enter Tryz.func47, Tryz.ntmps47
  go_wp2_with (first
    | (go_at_call 77; refine (hs _ _ _ (((below_alloc _ _).alloc (by simp) _).alloc (by simp; omega) _)).mono ?_; rintro _ w1 ⟨rfl, rfl⟩)
    | (go_at_call 56; refine (ht _ (((below_alloc _ _).alloc (by simp) _).alloc (by simp; omega) _)).mono ?_; rintro _ w1 ⟨rfl, rfl⟩))
  go_ret
  exact ⟨rfl, ((below_alloc _ _).alloc (by simp) _).alloc (by simp; omega) _⟩
theorem Remove_nil {w : World} {v : Option Addr} {x : ByteArray} (h : NilD w v) : Calls Tryz.prog 49 #[.pointer v, .string x] w fun e w' => e = .returned (.int .i64 1) ∧ Below w.heap.size w w' := by
  have hs := fun (W : World) (x f : Value) (hb : Below w.heap.size w W) => step_nil (nm := x) (f := f) (h.below hb)
  have ht := fun W (hb : Below w.heap.size w W) => there_nil (h.below hb)
  go_enter Tryz.func49, Tryz.ntmps49
  go_wp2_with (first
    | (go_at_call 77; refine (hs _ _ _ ((below_alloc _ _).alloc (by simp) _)).mono ?_; rintro _ w1 ⟨rfl, rfl⟩)
    | (go_at_call 56; refine (ht _ ((below_alloc _ _).alloc (by simp) _)).mono ?_; rintro _ w1 ⟨rfl, rfl⟩))
  go_ret
  exact ⟨rfl, (below_alloc _ _).alloc (by simp) _⟩
theorem Read_nil {w : World} {v : Option Addr} {x : ByteArray} {i j : Int} (h : NilD w v) : Calls Tryz.prog 51 #[.pointer v, .string x, .int .i64 i, .int .i64 j] w fun e w' => e = .returned (.tuple #[.slice none 0 0, .int .i64 1]) ∧ Below w.heap.size w w' := by
  have hs := fun (W : World) (x f : Value) (hb : Below w.heap.size w W) => look_nil (nm := x) (f := f) (h.below hb)
  have ht := fun W (hb : Below w.heap.size w W) => there_nil (h.below hb)
  go_enter Tryz.func51, Tryz.ntmps51
  go_wp2_with (first
    | (go_at_call 93; refine (hs _ _ _ (((below_alloc _ _).alloc (by simp) _).alloc (by simp; omega) _)).mono ?_; rintro _ w1 ⟨rfl, rfl⟩)
    | (go_at_call 56; refine (ht _ (((below_alloc _ _).alloc (by simp) _).alloc (by simp; omega) _)).mono ?_; rintro _ w1 ⟨rfl, rfl⟩))
  go_ret2
  exact ⟨rfl, ((below_alloc _ _).alloc (by simp) _).alloc (by simp; omega) _⟩
theorem Size_nil {w : World} {v : Option Addr} {x : ByteArray} (h : NilD w v) : Calls Tryz.prog 54 #[.pointer v, .string x] w fun e w' => e = .returned (.tuple #[.int .i64 0, .int .i64 1]) ∧ Below w.heap.size w w' := by
  have hs := fun (W : World) (x f : Value) (hb : Below w.heap.size w W) => look_nil (nm := x) (f := f) (h.below hb)
  have ht := fun W (hb : Below w.heap.size w W) => there_nil (h.below hb)
  go_enter Tryz.func54, Tryz.ntmps54
  go_wp2_with (first
    | (go_at_call 93; refine (hs _ _ _ (below_alloc _ _)).mono ?_; rintro _ w1 ⟨rfl, rfl⟩)
    | (go_at_call 56; refine (ht _ (below_alloc _ _)).mono ?_; rintro _ w1 ⟨rfl, rfl⟩))
  go_ret2
  exact ⟨rfl, below_alloc _ _⟩

theorem each_v (a : Option Addr) (w : World) : Calls Tryz.prog 68 #[.pointer a] w fun e w' =>
    e = .returned (.func (.func 101) #[] #[.pointer (some ⟨w.heap.size, 0, none⟩)]) ∧ w' = w.alloc (.cells #[.pointer a] 27) := by
  go_enter Tryz.func68, Tryz.ntmps68
  go_wp2
  go_ret
  exact ⟨rfl, rfl⟩
theorem Capacity_nil {w : World} {v : Option Addr} (h : NilD w v) : Calls Tryz.prog 15 #[.pointer v] w fun e w' => e = .returned (.int .i64 0) ∧ Below w.heap.size w w' := by
  rcases h with rfl | ⟨p, e, rfl, h⟩
  · go_enter Tryz.func15, Tryz.ntmps15
    go_wp2
    go_ret
    exact ⟨rfl, Below.refl _ _⟩
  · unfold zeroCells at h
    have c0 := cell_of_heap h (i := 0) (v := .int .i64 0) (by rfl)
    go_enter Tryz.func15, Tryz.ntmps15
    go_wp2
    go_ret
    exact ⟨rfl, Below.refl _ _⟩
theorem Steps_nil {w : World} {v : Option Addr} (h : NilD w v) : Calls Tryz.prog 64 #[.pointer v] w fun e w' => e = .returned (.int .i64 0) ∧ Below w.heap.size w w' := by
  rcases h with rfl | ⟨p, e, rfl, h⟩
  · go_enter Tryz.func64, Tryz.ntmps64
    go_wp2
    go_ret
    exact ⟨rfl, Below.refl _ _⟩
  · unfold zeroCells at h
    have c0 := cell_of_heap h (i := 6) (v := .int .i64 0) (by rfl)
    go_enter Tryz.func64, Tryz.ntmps64
    go_wp2
    go_ret
    exact ⟨rfl, Below.refl _ _⟩

end Go.Proofs.YtgckcnnnblggbaaGreat
/- Disk: All, the iterator over a telling of the files. -/
namespace Go.Proofs.YtgckcnnnblggbaaGreat
open Go.RowKit Go.Maps Go.Shelf

theorem FilesAt.at_ {w : World} {lo bo : Nat} {v : Value} {cs : List (List Value)} {L : List (List UInt8 × List UInt8)} (h : FilesAt w lo bo v cs L) : ∃ a c, v = .slice a L.length c ∧ ∀ (i : Nat) d, L[i]? = some d → ∃ g cur, a = some ⟨g, 0, none⟩ ∧ w.heap[g]? = some (.cells cur 56 (0, 0)) ∧ cur[i * 2]? = some (sv d.1) ∧ ∃ ua uc, cur[i * 2 + 1]? = some (.slice ua d.2.length uc) := by
  have hrow := h.row
  rcases hrow.2 with ⟨rfl, hz⟩ | ⟨g, cap, cur, rfl, _, hg, _, _, _, ht⟩
  · refine ⟨none, 0, by rw [hz], fun i d hd => ?_⟩
    have := List.length_eq_zero_iff.1 hz
    subst this
    simp at hd
  · refine ⟨_, cap, rfl, fun i d hd => ⟨g, cur, rfl, hg, ?_⟩⟩
    have hi : i < cs.length := by rw [h.count]; exact (List.getElem?_eq_some_iff.1 hd).1
    obtain ⟨U, hc, hU⟩ := h.file i cs[i] d (by simp) hd
    obtain ⟨ua, uc, rfl, _, _, hr, _⟩ := hU
    have hflat : ∀ (cs : List (List Value)) (i : Nat) (hi : i < cs.length), (∀ c ∈ cs, c.length = 2) → ∀ (j : Nat) u, j < 2 → (cs[i])[j]? = some u → cs.flatten[i * 2 + j]? = some u := by
      intro cs
      induction cs with
      | nil => intro i hi; simp at hi
      | cons c r ih =>
        intro i hi hl j u hj hu
        have hc2 := hl c List.mem_cons_self
        cases i with
        | zero => simp at hu; rw [List.flatten_cons, List.getElem?_append_left (by omega)]; simpa using hu
        | succ i =>
          rw [List.flatten_cons, List.getElem?_append_right (by omega)]
          have := ih i (by simpa using hi) (fun c hc => hl c (List.mem_cons_of_mem _ hc)) j u hj (by simpa using hu)
          rw [show (i + 1) * 2 + j - c.length = i * 2 + j from by omega]
          exact this
    have hl2 : ∀ c ∈ cs, c.length = 2 := fun c hcm => by
      obtain ⟨k, hk, rfl⟩ := List.getElem_of_mem hcm
      obtain ⟨d', hd'⟩ : ∃ d', L[k]? = some d' := ⟨L[k]'(by rw [← h.count]; exact hk), by simp⟩
      obtain ⟨U, e, _⟩ := h.file k cs[k] d' (by simp) hd'
      rw [e]; rfl
    have hcell : ∀ (j : Nat) u, j < L.length * 2 → cs.flatten[j]? = some u → cur[j]? = some u := fun j u hj hu => by
      have : cur.toList[j]? = some u := by rw [← ht, List.getElem?_take] at hu; simpa [hj] using hu
      simpa using this
    have hiL : i < L.length := (List.getElem?_eq_some_iff.1 hd).1
    exact ⟨hcell (i * 2) _ (by omega) (hflat cs i hi hl2 0 _ (by omega) (by rw [hc]; rfl)), ua, uc, hcell (i * 2 + 1) _ (by omega) (hflat cs i hi hl2 1 _ (by omega) (by rw [hc]; rfl))⟩

theorem All_any (a : Option Addr) (w : World) : Calls Tryz.prog 19 #[.pointer a] w fun e w' =>
    e = .returned (.func (.func 69) #[] #[.pointer (some ⟨w.heap.size, 0, none⟩)]) ∧ w' = w.alloc (.cells #[.pointer a] 27) := by
  go_enter Tryz.func19, Tryz.ntmps19
  go_wp2
  go_ret
  exact ⟨rfl, rfl⟩

/-- what the iterator hands out: the i-th name, and how many bytes its file has -/
def itemA (L : List (List UInt8 × List UInt8)) (i : Fin L.length) : Array Value := #[sv L[i].1, .int .i64 (L[i].2.length : Int)]

set_option maxRecDepth 100000 in
set_option maxHeartbeats 4000000 in
theorem all1_stops (n : Nat) (hn : 1 ≤ n) {w : World} {a : Option Addr} {L : List (List UInt8 × List UInt8)} (hL : L.length ≤ maxList)
    (hF : ∀ W, Below w.heap.size w W → Calls Tryz.prog 14 #[.pointer a] W fun e w' => ∃ v cs, e = .returned v ∧ FilesAt w' W.heap.size (W.heap.size + 1) v cs L ∧ Below W.heap.size W w')
    {bd : Nat} (hbd : Boxed w bd 27 (.pointer a)) (hi : Nat) (kt : TypeId → Prop) (k3 : kt 56) :
    SeqStopsK Fence.wide n Tryz.prog 69 #[.pointer (some ⟨bd, 0, none⟩)] (itemA L) (KpT hi kt) (fun xs => xs = List.finRange L.length) (fun pre => pre <+: List.finRange L.length) L.length w := by
  intro l J Jx W hW hJ hJx hY h0
  have hmx : maxList = 4194304 := rfl
  have hbx : Boxed W bd 27 (.pointer a) := (hW.block bd hbd.lt).trans hbd
  have cF := (callsIn_wide (n := n - 1)).2 (hF W hW)
  refine callsIn_of_wp Tryz.func69 rfl trivial ?_ rfl
  simp only [Tryz.ntmps69, List.size_toArray, List.length_cons, List.length_nil, Nat.reduceAdd, Nat.reduceSub, Array.replicate_succ, Array.replicate_zero, List.push_toArray, List.append_toArray, List.nil_append, List.cons_append]
  have HY := Lib.hid hY; clear hY
  have c5 := hbx.cell
  have hf31 : Fence.wide.fn 14 := trivial
  gi_wp2_with (gi_at_call 14; refine cF.mono ?_; rintro e1 W1 ⟨v, cs, rfl, hfa, hb1⟩; obtain ⟨va, vc, rfl, hat⟩ := hfa.at_)
  have hJ1 : J [] W1 := hJ [] W W1 none h0 (Below.grownBy hb1) (fun r e => by cases e)
  have hb01 := bthen hW hb1
  obtain ⟨xs, hxs⟩ : ∃ xs, xs = List.finRange L.length := ⟨_, rfl⟩
  have hlen : xs.length = L.length := by rw [hxs]; simp
  have hget : ∀ k (hk : k < L.length), xs[k]? = some ⟨k, hk⟩ := fun k hk => by rw [hxs]; exact finRange_get _ _ hk
  have hsz1 := hb01.size
  have hsz2 := hb1.size
  gi_loopw [8] (fun i wr => ∃ k : Nat, k ≤ L.length ∧ i = .int .i64 k ∧ J (xs.take k) wr ∧ KpT hi kt W1 wr) (fun i _ => L.length - (RowKit.intOf i).toNat)
  case atStart => exact ⟨0, by omega, rfl, by simpa using hJ1, KpT.refl _ _ _⟩
  case round =>
    obtain ⟨k, hk, rfl, hJs, hkp⟩ := hrel
    by_cases hlt : k < L.length
    · obtain ⟨nb, hnb⟩ : ∃ nb, L[k].1 = nb := ⟨_, rfl⟩
      obtain ⟨ln, hln⟩ : ∃ ln, L[k].2.length = ln := ⟨_, rfl⟩
      obtain ⟨g, cur, rfl, hg, q0, ua, uc, q1⟩ := hat k L[k] (by simp)
      rw [hnb] at q0
      rw [hln] at q1
      unfold sv at q0
      have hgr := hkp.2 g _ hg (.inr ⟨_, _, _, rfl, k3⟩)
      have d0 := cell_of_heap hgr q0
      have d1 := cell_of_heap hgr q1
      obtain ⟨W2, hW2⟩ : ∃ W2, wr.alloc (.cells #[.string ⟨nb.toArray⟩, .slice ua ln uc] 56) = W2 := ⟨_, rfl⟩
      have hb2 : Below wr.heap.size wr W2 := by rw [← hW2]; exact below_alloc _ _
      have hbw : W2.heap[wr.heap.size]? = some (.cells #[.string ⟨nb.toArray⟩, .slice ua ln uc] 56 (0, 0)) := by rw [← hW2]; exact World.alloc_heap_new wr _
      have e0 := cell_of_heap hbw (i := 0) (v := .string ⟨nb.toArray⟩) (by rfl)
      have e1 := cell_of_heap hbw (i := 1) (v := .slice ua ln uc) (by rfl)
      have hx := hget k hlt
      have hJd : J (xs.take k) W2 := hJ _ wr W2 none hJs (Below.grownBy hb2) (fun r e => by cases e)
      obtain ⟨fn, tmps, assign, body, hy, hR⟩ := HY.out _ ⟨k, hlt⟩ W2 hJd (by simp [hlen]; omega)
      have hstep : xs.take k ++ [⟨k, hlt⟩] = xs.take (k + 1) := by rw [List.take_add_one, hx]; rfl
      rw [hstep] at hR
      simp only [itemA, Fin.getElem_fin, hnb, hln, sv] at hy
      have HST := Lib.hid hstep; clear hstep hx
      have j0 : (0 : Int) ≤ (k : Int) := by omega
      have j1 : (k : Int) < (L.length : Int) := by omega
      clear hat q0 q1 hgr hg hnb hln
      have HK2 := Lib.hid (KpT.of_below (hi := hi) (kt := kt) hb2)
      gi_wp2_with (refine hR.mono ?_; rintro e3 W3 hcase; obtain ⟨bq, rfl, hq⟩ : ∃ bq, e3 = .returned (.bool bq) ∧ ((bq = true ∧ J (xs.take (k + 1)) W3 ∧ KpT hi kt W2 W3) ∨ (bq = false ∧ Jx (xs.take (k + 1)) W3)) := by rcases hcase with ⟨h1, h2, h3⟩ | ⟨h1, h2⟩; exact ⟨true, h1, .inl ⟨rfl, h2, h3⟩⟩; exact ⟨false, h1, .inr ⟨rfl, h2⟩⟩)
      all_goals first
        | exact bodyPost_ret (results_none rfl _ _ _) rfl ⟨⟨_, rfl⟩, .inr ⟨_, by rw [← hxs]; exact List.take_prefix (k + 1) xs, by
            rcases hq with ⟨h, _⟩ | ⟨_, h⟩
            · subst h; simp_all
            · exact h⟩⟩
        | (obtain ⟨h1, h2⟩ : J (xs.take (k + 1)) W3 ∧ KpT hi kt W2 W3 := by
            rcases hq with ⟨_, h1, h2⟩ | ⟨h, _⟩
            · exact ⟨h1, h2⟩
            · subst h; simp_all
           exact ⟨⟨k + 1, by omega, by go_num, h1, (hkp.trans HK2.out).trans h2⟩, by simp [RowKit.intOf]; omega⟩)
    · obtain rfl : k = L.length := by omega
      gi_wp2
      go_end0
      exact ⟨⟨_, rfl⟩, .inl ⟨_, rfl, by rw [← hxs]; rwa [List.take_of_length_le (by omega)] at hJs⟩⟩

end Go.Proofs.YtgckcnnnblggbaaGreat
/- Disk: a disk that is not there, and a zero one: Files. -/
namespace Go.Proofs.YtgckcnnnblggbaaGreat
open Go.RowKit Go.Maps Go.Shelf
set_option maxRecDepth 1000000

def noItem (i : Fin 0) : Array Value := i.elim0
set_option maxHeartbeats 4000000 in
theorem each1_nil (n : Nat) (hn : 1 ≤ n) {w : World} {v : Option Addr} (h : NilD w v) {bd : Nat} (hbd : Boxed w bd 27 (.pointer v)) (hi : Nat) (kt : TypeId → Prop) :
    SeqStopsK Fence.wide n Tryz.prog 101 #[.pointer (some ⟨bd, 0, none⟩)] noItem (KpT hi kt) (fun xs => xs = []) (fun pre => pre <+: []) 0 w := by
  intro l J Jx W hW hJ hJx hY h0
  have hbx : Boxed W bd 27 (.pointer v) := (hW.block bd hbd.lt).trans hbd
  have cN := (callsIn_wide (n := n - 1)).2 (Names_nil (h.below hW))
  refine callsIn_of_wp Tryz.func101 rfl trivial ?_ rfl
  simp only [Tryz.ntmps101, List.size_toArray, List.length_cons, List.length_nil, Nat.reduceAdd, Nat.reduceSub, Array.replicate_succ, Array.replicate_zero, List.push_toArray, List.append_toArray, List.nil_append, List.cons_append]
  clear hY
  have c5 := hbx.cell
  have hf20 : Fence.wide.fn 62 := trivial
  gi_wp2_with (gi_at_call 62; refine cN.mono ?_; rintro e1 W1 ⟨rfl, hb1⟩)
  have hJ1 : J [] W1 := hJ [] W W1 none h0 (Below.grownBy hb1) (fun r e => by cases e)
  gi_loopw [14] (fun i wr => i = .int .i64 0 ∧ J [] wr) (fun _ _ => 0)
  case atStart => exact ⟨rfl, hJ1⟩
  case round =>
    obtain ⟨rfl, hJs⟩ := hrel
    gi_wp2
    go_end0
    exact ⟨⟨_, rfl⟩, .inl ⟨_, rfl, hJs⟩⟩

set_option maxHeartbeats 4000000 in
theorem Files_nil {w : World} {v : Option Addr} (h : NilD w v) :
    Calls Tryz.prog 14 #[.pointer v] w fun e w' => ∃ u cs, e = .returned u ∧ FilesAt w' w.heap.size (w.heap.size + 1) u cs [] ∧ Below w.heap.size w w' := by
  refine (callsIn_wide (n := 6)).1 ?_
  have cE := fun w => (callsIn_wide (n := 5)).2 (each_v v w)
  refine callsIn_of_wp_marks Tryz.func14 rfl trivial ?_ rfl
  simp only [Tryz.ntmps14, List.size_toArray, List.length_cons, List.length_nil, Nat.reduceAdd, Nat.reduceSub, Array.replicate_succ, Array.replicate_zero, List.push_toArray, List.append_toArray, List.nil_append, List.cons_append]
  have hf58 : Fence.wide.fn 68 := trivial
  gi_wp2_with (gi_at_call 68; refine (cE _).mono ?_; rintro e1 W1 ⟨rfl, rfl⟩)
  obtain ⟨w3, hw3⟩ : ∃ w3, ((w.alloc (.cells #[] 56)).alloc (.cells #[.slice (some ⟨w.heap.size, 0, none⟩) 0 0] 22)).alloc (.cells #[.pointer v] 27) = w3 := ⟨_, rfl⟩
  have hb3 : Below w.heap.size w w3 := by rw [← hw3]; exact ((below_alloc w _).alloc (by simp) _).alloc (by simp; omega) _
  have hz3 : w3.heap.size = w.heap.size + 3 := by rw [← hw3]; simp
  have hbo : Boxed w3 (w.heap.size + 1) 22 (.slice (some ⟨w.heap.size, 0, none⟩) 0 0) := by rw [← hw3]; have := (Boxed.new (w.alloc (.cells #[] 56)) 22 (.slice (some ⟨w.heap.size, 0, none⟩) 0 0)).alloc (.cells #[.pointer v] 27); rwa [World.size_alloc] at this
  have hbd : Boxed w3 (w.heap.size + 1 + 1) 27 (.pointer v) := by rw [← hw3]; have := Boxed.new ((w.alloc (.cells #[] 56)).alloc (.cells #[.slice (some ⟨w.heap.size, 0, none⟩) 0 0] 22)) 27 (.pointer v); rwa [World.size_alloc, World.size_alloc] at this
  have hrow0 : w3.heap[w.heap.size]? = some (.cells #[] 56 (0, 0)) := by rw [← hw3]; exact (Below.heap_alloc _ _ _ (by simp; omega)).trans ((Below.heap_alloc _ _ _ (by simp)).trans (World.alloc_heap_new w _))
  rw [hw3]
  clear hw3
  have h3 := h.below hb3
  have hF0 : FilesAt w3 w.heap.size (w.heap.size + 1) (.slice (some ⟨w.heap.size, 0, none⟩) 0 0) [] [] :=
    ⟨⟨rfl, .inr ⟨w.heap.size, 0, #[], rfl, Nat.le_refl _, hrow0, Nat.le_refl _, Nat.zero_le _, rfl, rfl⟩⟩, rfl, fun i c d hc => by simp at hc, List.Pairwise.nil⟩
  refine wpIn_rangeFunc_ownF rfl (by omega) (gf := 101) (lb := #[.pointer (some ⟨w.heap.size + 1 + 1, 0, none⟩)]) rfl trivial (enters_of Tryz.func101 (by kernel_rfl) rfl)
    (each1_nil 5 (by omega) h3 hbd w.heap.size (fun t => t ≠ 56 ∧ t ≠ 22)) (fun h k => h.trans k) (fun W l o o' hl ho hc _ => KpT.putObj W l o o' (by omega) ho hc) (Below.refl _ _) (fun i => i.elim0)
    (fun (pre : List (Fin 0)) W => Below w.heap.size w W ∧ Boxed W (w.heap.size + 1) 22 (.slice (some ⟨w.heap.size, 0, none⟩) 0 0) ∧ FilesAt W w.heap.size (w.heap.size + 1) (.slice (some ⟨w.heap.size, 0, none⟩) 0 0) [] []) (fun _ _ _ => False)
    (fun ps W W' row ⟨h1, h2, h3⟩ hg hr => ⟨h1.grown hg h1.size (fun k e => by have := (hr k e).1; omega), boxed_from h2 hg hr, h3.from hg (fun r e => (hr r e).2)⟩) (fun _ _ _ _ _ h _ _ => h) ⟨hb3, hbo, hF0⟩
    (fun x => x.elim0) ?assign ?body ?done ?stop
  case assign => intro l x W K hK; exact x.elim0
  case body => intro l pre x; exact x.elim0
  case stop =>
    rintro Dd c pre W _ _ h _
    exact h.elim
  case done =>
    rintro Dd xs W hD rfl ⟨h1, h2, h5⟩ hK
    have c2 := h2.cell
    have hDd := heap_lt hK
    gi_wp2
    refine ⟨by simp, .inl ⟨_, _, rfl, run_takeDeferred hK, ?_⟩⟩
    have hg : W.grownBy (W.putObj Dd (.deferred none)) (some Dd) := grownBy_putObj' W Dd _
    exact ⟨_, results_tmp (t := 2) rfl _ _ _, _, [], rfl, h5.from hg (fun r e => by cases e; exact ⟨_, hK, rfl⟩), h1.grown hg h1.size (fun k e => by cases e; omega)⟩

end Go.Proofs.YtgckcnnnblggbaaGreat
