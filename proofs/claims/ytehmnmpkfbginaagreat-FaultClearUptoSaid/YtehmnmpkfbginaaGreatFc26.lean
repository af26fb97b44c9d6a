/- Texts of this claim, one behind the other: FaJ, FaK, DlQ, ReO. -/
import Derived.Test.YtehmnmpkfbginaaGreatFc25
import Derived.Test.YtehmnmpkfbginaaGreatFc12
import Derived.Test.YtehmnmpkfbginaaGreatFc16
import Derived.RangeFuncFrom
set_option linter.unusedSimpArgs false
set_option linter.unusedVariables false
/- FaultClear, plain: a device over a plan that names nothing. -/
namespace Go.Proofs.YtehmnmpkfbginaaGreat
open Go.RowKit Go.Maps

/-- a device over a plan that names nothing, behind at most k steps; off: has it stopped? -/
structure Clear (f : FSt) (s : DSt) (k : Nat) (off : Bool) : Prop where
  disk : f.disk = s
  full : f.full = []
  halt : f.halt = -1
  done : f.done.length ≤ k
  off : f.off = off
theorem Clear.ask_on {f : FSt} {s : DSt} {k : Nat} (h : Clear f s k false) (x : FStep) (d : DSt × Nat) : (f.ask x d).2 = (d.2 : Int) ∧ Clear (f.ask x d).1 d.1 (k + 1) false := by
  have h1 : f.offB = false := by unfold FSt.offB; rw [h.off, h.halt]; simp
  unfold FSt.ask
  rw [h1, if_neg (by decide), h.full, if_neg (by simp)]
  exact ⟨rfl, ⟨rfl, rfl, h.halt, by have := h.done; simp; omega, h.off⟩⟩
theorem Clear.ask_off {f : FSt} {s : DSt} {k : Nat} (h : Clear f s k true) (x : FStep) (d : DSt × Nat) : (f.ask x d).2 = 6 ∧ Clear (f.ask x d).1 s (k + 1) true := by
  have h1 : f.offB = true := by unfold FSt.offB; rw [h.off]; rfl
  unfold FSt.ask
  rw [if_pos h1]
  exact ⟨rfl, ⟨h.disk, h.full, h.halt, by have := h.done; simp; omega, rfl⟩⟩
theorem Clear.step_on {f : FSt} {s : DSt} {k : Nat} (h : Clear f s k false) (x : AOp) : (stepF x f).2 = ((stepD x s).2 : Int) ∧ Clear (stepF x f).1 (stepD x s).1 (k + 1) false := by
  have hd := h.disk
  unfold stepF stepD
  rw [hd]
  split
  · exact h.ask_on _ _
  split
  · exact h.ask_on _ _
  split
  · exact h.ask_on _ _
  split
  · exact h.ask_on _ _
  split
  · exact h.ask_on _ _
  split
  · exact h.ask_on _ _
  split
  · exact h.ask_on _ _
  · exact ⟨rfl, ⟨h.disk, h.full, h.halt, Nat.le_succ_of_le h.done, h.off⟩⟩
theorem Clear.step_off {f : FSt} {s : DSt} {k : Nat} (h : Clear f s k true) (x : AOp) : (1 ≤ x.kind → x.kind ≤ 7 → (stepF x f).2 = 6) ∧ Clear (stepF x f).1 s (k + 1) true := by
  unfold stepF
  split
  · exact ⟨fun _ _ => (h.ask_off _ _).1, (h.ask_off _ _).2⟩
  split
  · exact ⟨fun _ _ => (h.ask_off _ _).1, (h.ask_off _ _).2⟩
  split
  · exact ⟨fun _ _ => (h.ask_off _ _).1, (h.ask_off _ _).2⟩
  split
  · exact ⟨fun _ _ => (h.ask_off _ _).1, (h.ask_off _ _).2⟩
  split
  · exact ⟨fun _ _ => (h.ask_off _ _).1, (h.ask_off _ _).2⟩
  split
  · exact ⟨fun _ _ => (h.ask_off _ _).1, (h.ask_off _ _).2⟩
  split
  · exact ⟨fun _ _ => (h.ask_off _ _).1, (h.ask_off _ _).2⟩
  · exact ⟨fun h1 h2 => by omega, ⟨h.disk, h.full, h.halt, Nat.le_succ_of_le h.done, h.off⟩⟩
theorem Clear.stop {f : FSt} {s : DSt} {k : Nat} {b : Bool} (h : Clear f s k b) : Clear { f with off := true } s k true := ⟨h.disk, h.full, h.halt, h.done, rfl⟩
theorem stepD_ok {s : DSt} {N : Nat} (h : s.Ok N) (x : AOp) : (stepD x s).1.Ok (N + 1) := by
  unfold stepD
  split
  · exact h.create _
  split
  · exact h.put _ _ _
  split
  · exact h.cut _ _
  split
  · exact h.sync _
  split
  · exact h.syncNames
  split
  · exact h.rename _ _
  split
  · exact h.remove _
  · exact h.mono (by omega)

end Go.Proofs.YtehmnmpkfbginaaGreat
/- The device's steps, gone over. -/
namespace Go.Proofs.YtehmnmpkfbginaaGreat
open Go.RowKit Go.Maps Go.Shelf

theorem fAll_any (a : Option Addr) (w : World) : Calls Tryz.prog 15 #[.pointer a] w fun e w' =>
    e = .returned (.func (.func 30) #[] #[.pointer (some ⟨w.heap.size, 0, none⟩)]) ∧ w' = w.alloc (.cells #[.pointer a] 36) := by
  go_enter Tryz.func15, Tryz.ntmps15
  go_wp2
  go_ret
  exact ⟨rfl, rfl⟩
/-- what the iterator hands out: a number and a step -/
def itemS (L : List FStep) (i : Fin L.length) : Array Value := #[.int .i64 (i.1 : Int), .agg (encFS L[i]).toArray]
theorem encFS_at {L : List FStep} {k : Nat} (hk : k < L.length) (j : Nat) (u : Value) (hj : j < 6) (hu : (encFS L[k])[j]? = some u) : ((L.map encFS).flatten)[k * 6 + j]? = some u := by
  have key : ∀ (L : List FStep) (k : Nat) (hk : k < L.length), (encFS L[k])[j]? = some u → ((L.map encFS).flatten)[k * 6 + j]? = some u := by
    intro L
    induction L with
    | nil => intro k hk; simp at hk
    | cons c r ih =>
      intro k hk hu
      cases k with
      | zero => simp only [List.getElem_cons_zero] at hu; rw [List.map_cons, List.flatten_cons, List.getElem?_append_left (by simp [encFS]; omega)]; simpa using hu
      | succ k =>
        rw [List.map_cons, List.flatten_cons, List.getElem?_append_right (by simp [encFS]; omega)]
        have := ih k (by simpa using hk) (by simpa using hu)
        rw [show (k + 1) * 6 + j - (encFS c).length = k * 6 + j from by simp [encFS]; omega]
        exact this
  exact key L k hk hu
theorem KpT.rowLt {hi : Nat} {kt : TypeId → Prop} {W W' : World} (h : KpT hi kt W W') {base : Nat} {e : TypeId} {size n : Nat} {v : Value} {xs : List Value} (hr : W.ownsRow base e size v n xs) (hb : ∀ b, v.ownBlock = some b → b < hi) : W'.ownsRow base e size v n xs := by
  refine ⟨hr.1, ?_⟩
  rcases hr.2 with ⟨e1, e2⟩ | ⟨g, cap, cur, rfl, h1, h2, h3⟩
  · exact .inl ⟨e1, e2⟩
  · exact .inr ⟨g, cap, cur, rfl, h1, h.2 g _ h2 (.inl (hb g rfl)), h3⟩
set_option maxRecDepth 100000 in
set_option maxHeartbeats 4000000 in
theorem fall1_stops (n : Nat) (hn : 1 ≤ n) {F1 G1 : Nat → Prop} {w : World} {pf pd : Nat} {f : FSt} {vf vd : Value} {e : TypeId} (h : FaultP F1 G1 w pf pd f vf vd e) (hdn : f.done.length < 1048576)
    {bd : Nat} (hbd : Boxed w bd 36 (.pointer (some ⟨pf, 0, none⟩))) (hi : Nat) (hpf : pf < hi) (hvd : ∀ b, vd.ownBlock = some b → b < hi) (kt : TypeId → Prop) :
    SeqStopsK Fence.wide n Tryz.prog 30 #[.pointer (some ⟨bd, 0, none⟩)] (itemS f.done) (KpT hi kt) (fun xs => xs = List.finRange f.done.length) (fun pre => pre <+: List.finRange f.done.length) f.done.length w := by
  intro l J Jx W hW hJ hJx hY h0
  have hbx : Boxed W bd 36 (.pointer (some ⟨pf, 0, none⟩)) := (hW.block bd hbd.lt).trans hbd
  have hP := h.kept (O := fun _ => False) (Chg.of_below hW) (fun _ _ h => h) (fun h => h) (fun _ _ h => h) (fun _ _ h => h)
  obtain ⟨va, vc, rfl, _, _, hat⟩ := ownsRow_at hP.done
  have hrow := hP.done
  have c4 := cell_of_heap hP.cells (i := 4) (v := .slice va f.done.length vc) (by rfl)
  refine callsIn_of_wp Tryz.func30 rfl trivial ?_ rfl
  simp only [Tryz.ntmps30, List.size_toArray, List.length_cons, List.length_nil, Nat.reduceAdd, Nat.reduceSub, Array.replicate_succ, Array.replicate_zero, List.push_toArray, List.append_toArray, List.nil_append, List.cons_append]
  have HY := Lib.hid hY; clear hY
  have c5 := hbx.cell
  have HAT := Lib.hid (And.intro hat hrow)
  clear hat hrow
  gi_wp2
  have hJ1 : J [] W := h0
  obtain ⟨xs, hxs⟩ : ∃ xs, xs = List.finRange f.done.length := ⟨_, rfl⟩
  have hlen : xs.length = f.done.length := by rw [hxs]; simp
  have hget : ∀ k (hk : k < f.done.length), xs[k]? = some ⟨k, hk⟩ := fun k hk => by rw [hxs]; exact finRange_get _ _ hk
  have hsz1 := hW.size
  have HXS := Lib.hid (And.intro hxs (And.intro hlen hget))
  clear hxs hlen hget
  gi_loopw [12] (fun i wr => ∃ k : Nat, k ≤ f.done.length ∧ i = .int .i64 k ∧ J (xs.take k) wr ∧ KpT hi kt W wr) (fun i _ => f.done.length - (RowKit.intOf i).toNat)
  case atStart => exact ⟨0, by omega, rfl, by simpa using hJ1, KpT.refl _ _ _⟩
  case round =>
    obtain ⟨k, hk, rfl, hJs, hkp⟩ := hrel
    obtain ⟨hxs, hlen, hget⟩ := HXS.out
    by_cases hlt : k < f.done.length
    · obtain ⟨s, hs⟩ : ∃ s, f.done[k] = s := ⟨_, rfl⟩
      obtain ⟨_, _, _, _, _, hat2⟩ := ownsRow_at (hkp.rowLt HAT.out.2 hvd)
      have hc : ∀ (j : Nat) u, j < 6 → (encFS s)[j]? = some u → ∃ g, va = some ⟨g, 0, none⟩ ∧ wr.cell? ⟨g, k * 6 + j, none⟩ = some u := fun j u hj hu => by
        obtain ⟨a', c', e1, _, _, hat3⟩ := ownsRow_at (hkp.rowLt HAT.out.2 hvd)
        cases e1
        exact hat3 _ u (encFS_at hlt j u hj (by rw [hs]; exact hu))
      obtain ⟨g, rfl, d0⟩ := hc 0 (.int .i64 s.op) (by omega) rfl
      have dd : ∀ (j : Nat) u, j < 6 → (encFS s)[j]? = some u → wr.cell? ⟨g, k * 6 + j, none⟩ = some u := fun j u hj hu => by
        obtain ⟨g', e1, h1⟩ := hc j u hj hu
        cases e1; exact h1
      have d00 : wr.cell? ⟨g, k * 6, none⟩ = some (.int .i64 s.op) := d0
      clear d0
      have d1 := dd 1 (.string ⟨s.name.toArray⟩) (by omega) rfl
      have d2 := dd 2 (.string ⟨s.dst.toArray⟩) (by omega) rfl
      have d3 := dd 3 (.int .i64 s.at_) (by omega) rfl
      have d4 := dd 4 (.int .i64 s.size) (by omega) rfl
      have d5 := dd 5 (.int .i64 s.err) (by omega) rfl
      obtain ⟨W2, hW2⟩ : ∃ W2, wr.alloc (.cells #[.int .i64 s.op, .string ⟨s.name.toArray⟩, .string ⟨s.dst.toArray⟩, .int .i64 s.at_, .int .i64 s.size, .int .i64 s.err] 87) = W2 := ⟨_, rfl⟩
      have hb2 : Below wr.heap.size wr W2 := by rw [← hW2]; exact below_alloc _ _
      have hbw : W2.heap[wr.heap.size]? = some (.cells #[.int .i64 s.op, .string ⟨s.name.toArray⟩, .string ⟨s.dst.toArray⟩, .int .i64 s.at_, .int .i64 s.size, .int .i64 s.err] 87 (0, 0)) := by rw [← hW2]; exact World.alloc_heap_new wr _
      have e0 := cell_of_heap hbw (i := 0) (v := .int .i64 s.op) (by rfl)
      have e1 := cell_of_heap hbw (i := 1) (v := .string ⟨s.name.toArray⟩) (by rfl)
      have e2 := cell_of_heap hbw (i := 2) (v := .string ⟨s.dst.toArray⟩) (by rfl)
      have e3 := cell_of_heap hbw (i := 3) (v := .int .i64 s.at_) (by rfl)
      have e4 := cell_of_heap hbw (i := 4) (v := .int .i64 s.size) (by rfl)
      have e5 := cell_of_heap hbw (i := 5) (v := .int .i64 s.err) (by rfl)
      have hx := hget k hlt
      have hJd : J (xs.take k) W2 := hJ _ wr W2 none hJs (Below.grownBy hb2) (fun r e => by cases e)
      obtain ⟨fn, tmps, assign, body, hy, hR⟩ := HY.out _ ⟨k, hlt⟩ W2 hJd (by simp [hlen]; omega)
      have hstep : xs.take k ++ [⟨k, hlt⟩] = xs.take (k + 1) := by rw [List.take_add_one, hx]; rfl
      rw [hstep] at hR
      simp only [itemS, Fin.getElem_fin, hs, encFS, sv] at hy
      have HST := Lib.hid hstep; clear hstep hx
      have j0 : (0 : Int) ≤ (k : Int) := by omega
      have j1 : (k : Int) < (f.done.length : Int) := by omega
      clear hc dd hat2 hbw hs
      have HK2 := Lib.hid (KpT.of_below (hi := hi) (kt := kt) hb2)
      have HW2 := Lib.hid hW2
      clear hW2 hxs hlen hget
      gi_wp2_with (first | rw [HW2.out] | (refine hR.mono ?_; rintro e3 W3 hcase; obtain ⟨bq, rfl, hq⟩ : ∃ bq, e3 = .returned (.bool bq) ∧ ((bq = true ∧ J (xs.take (k + 1)) W3 ∧ KpT hi kt W2 W3) ∨ (bq = false ∧ Jx (xs.take (k + 1)) W3)) := by rcases hcase with ⟨h1, h2, h3⟩ | ⟨h1, h2⟩; exact ⟨true, h1, .inl ⟨rfl, h2, h3⟩⟩; exact ⟨false, h1, .inr ⟨rfl, h2⟩⟩))
      all_goals first
        | exact bodyPost_ret (results_none rfl _ _ _) rfl ⟨⟨_, rfl⟩, .inr ⟨_, by rw [← HXS.out.1]; exact List.take_prefix (k + 1) xs, by
            rcases hq with ⟨h, _⟩ | ⟨_, h⟩
            · subst h; simp_all
            · exact h⟩⟩
        | (obtain ⟨h1, h2⟩ : J (xs.take (k + 1)) W3 ∧ KpT hi kt W2 W3 := by
            rcases hq with ⟨_, h1, h2⟩ | ⟨h, _⟩
            · exact ⟨h1, h2⟩
            · subst h; simp_all
           exact ⟨⟨k + 1, by omega, by go_num, h1, (hkp.trans HK2.out).trans h2⟩, by simp [RowKit.intOf]; omega⟩)
    · obtain rfl : k = f.done.length := by omega
      gi_wp2
      go_end0
      exact ⟨⟨_, rfl⟩, .inl ⟨_, rfl, by rw [← hxs]; rwa [List.take_of_length_le (by omega)] at hJs⟩⟩

end Go.Proofs.YtehmnmpkfbginaaGreat
/- Disk: All, the iterator over a telling of the files. -/
namespace Go.Proofs.YtehmnmpkfbginaaGreat
open Go.RowKit Go.Maps Go.Shelf

theorem FilesAt.at_ {w : World} {lo bo : Nat} {v : Value} {cs : List (List Value)} {L : List (List UInt8 × List UInt8)} (h : FilesAt w lo bo v cs L) : ∃ a c, v = .slice a L.length c ∧ ∀ (i : Nat) d, L[i]? = some d → ∃ g cur, a = some ⟨g, 0, none⟩ ∧ w.heap[g]? = some (.cells cur 51 (0, 0)) ∧ cur[i * 2]? = some (sv d.1) ∧ ∃ ua uc, cur[i * 2 + 1]? = some (.slice ua d.2.length uc) := by
  have hrow := h.row
  rcases hrow.2 with ⟨rfl, hz⟩ | ⟨g, cap, cur, rfl, _, hg, _, _, _, ht⟩
  · refine ⟨none, 0, by rw [hz], fun i d hd => ?_⟩
    have := List.length_eq_zero_iff.1 hz
    subst this
    simp at hd
  · refine ⟨_, cap, rfl, fun i d hd => ⟨g, cur, rfl, hg, ?_⟩⟩
    have hi : i < cs.length := by rw [h.count]; exact (List.getElem?_eq_some_iff.1 hd).1
    obtain ⟨U, hc, hU⟩ := h.file i cs[i] d (by simp) hd
    obtain ⟨ua, uc, rfl, _, _, hr, _⟩ := hU
    have hflat : ∀ (cs : List (List Value)) (i : Nat) (hi : i < cs.length), (∀ c ∈ cs, c.length = 2) → ∀ (j : Nat) u, j < 2 → (cs[i])[j]? = some u → cs.flatten[i * 2 + j]? = some u := by
      intro cs
      induction cs with
      | nil => intro i hi; simp at hi
      | cons c r ih =>
        intro i hi hl j u hj hu
        have hc2 := hl c List.mem_cons_self
        cases i with
        | zero => simp at hu; rw [List.flatten_cons, List.getElem?_append_left (by omega)]; simpa using hu
        | succ i =>
          rw [List.flatten_cons, List.getElem?_append_right (by omega)]
          have := ih i (by simpa using hi) (fun c hc => hl c (List.mem_cons_of_mem _ hc)) j u hj (by simpa using hu)
          rw [show (i + 1) * 2 + j - c.length = i * 2 + j from by omega]
          exact this
    have hl2 : ∀ c ∈ cs, c.length = 2 := fun c hcm => by
      obtain ⟨k, hk, rfl⟩ := List.getElem_of_mem hcm
      obtain ⟨d', hd'⟩ : ∃ d', L[k]? = some d' := ⟨L[k]'(by rw [← h.count]; exact hk), by simp⟩
      obtain ⟨U, e, _⟩ := h.file k cs[k] d' (by simp) hd'
      rw [e]; rfl
    have hcell : ∀ (j : Nat) u, j < L.length * 2 → cs.flatten[j]? = some u → cur[j]? = some u := fun j u hj hu => by
      have : cur.toList[j]? = some u := by rw [← ht, List.getElem?_take] at hu; simpa [hj] using hu
      simpa using this
    have hiL : i < L.length := (List.getElem?_eq_some_iff.1 hd).1
    exact ⟨hcell (i * 2) _ (by omega) (hflat cs i hi hl2 0 _ (by omega) (by rw [hc]; rfl)), ua, uc, hcell (i * 2 + 1) _ (by omega) (hflat cs i hi hl2 1 _ (by omega) (by rw [hc]; rfl))⟩


/-- what the iterator hands out: the i-th name, and how many bytes its file has -/
def itemA (L : List (List UInt8 × List UInt8)) (i : Fin L.length) : Array Value := #[sv L[i].1, .int .i64 (L[i].2.length : Int)]


end Go.Proofs.YtehmnmpkfbginaaGreat
/- A loop over an iterator that only makes memory between its rounds: the body may write whatever there is, but for the loop's own two blocks. -/
namespace Go.Proofs.YtehmnmpkfbginaaGreat
open Go.RowKit

section
variable {F : Fence} {n : Nat} {P : Program}
/-- an iterator that hands out all its items to a loop that always goes on, and keeps what abides new memory -/
def SeqCalm {α : Type} (F : Fence) (n : Nat) (P : Program) (g : Nat) (lb : Array Value) (encs : α → Array Value) (Kp : World → World → Prop) (S Sp : List α → Prop) (w : World) : Prop :=
  ∀ (l : Nat) (J : List α → World → Prop) (W : World), Below w.heap.size w W → (∀ s A B, J s A → A.grownBy B none → J s B) →
    (∀ pre x W1, J pre W1 → Sp (pre ++ [x]) → YieldAt F (n - 1) P l (encs x) W1 fun e W' => e = .returned (.bool true) ∧ J (pre ++ [x]) W' ∧ Kp W1 W') →
    J [] W → CallsIn F n P g (#[.func (.yield l) #[] #[]] ++ lb) W fun e W' => (∃ v, e = .returned v) ∧ ∃ xs, S xs ∧ J xs W'

theorem wpIn_rangeFunc_calm {α : Type} {g : Operand} {ps : Array Tmp} {assign body : Code} {Q : Exit → Act → World → Prop} {a : Act} {w : World}
    (hro : F.round = none) (h1 : 1 ≤ n) {gf : Nat} {lb : Array Value} (hg : a.eval g = .func (.func gf) #[] lb) (hFg : F.fn gf) (eg : ∀ args w, (callFunc gf args).run P w = .ok (.enter gf args) w)
    {encs : α → Array Value} {Kp : World → World → Prop} {S Sp : List α → Prop} {w0 : World} (hseq : SeqCalm F (n - 1) P gf lb encs Kp S Sp w0)
    (hKt : ∀ {A B C : World}, Kp A B → Kp B C → Kp A C) (hKl : ∀ (W : World) (o o' : Loop), W.heap[w.heap.size + 1]? = some (.loop o) → Kp W (W.putObj (w.heap.size + 1) (.loop o'))) (hb0 : Below w0.heap.size w0 w) (hps : ∀ x, (encs x).size = ps.size)
    (I : List α → World → Prop) (hI : ∀ s A B, I s A → A.grownBy B none → I s B) (hIl : ∀ s W (o o' : Loop), I s W → W.heap[w.heap.size + 1]? = some (.loop o) → I s (W.putObj (w.heap.size + 1) (.loop o'))) (h0 : I [] w) (a₁ : α → Act)
    (hassign : ∀ (l : Nat) (x : α) (W : World) (K : Act → World → Prop), K (a₁ x) W → assign.wpIn (F.inRound l) (n - 1 - 1) P (Exit.then K (fun _ _ _ => False)) { tmps := (ps.zip (encs x)).foldl (fun t (p, v) => t.setIfInBounds p v) a.tmps, defers := [] } W)
    (hbody : ∀ (l : Nat) (pre : List α) (x : α) (W : World), I pre W → Sp (pre ++ [x]) → w.heap.size + 1 < W.heap.size → body.wpIn (F.inRound l) (n - 1 - 1) P (fun e _ W' => e = .normal ∧ (∀ b, w.heap.size ≤ b → b ≤ w.heap.size + 1 → W'.heap[b]? = W.heap[b]?) ∧ Kp W W' ∧ I (pre ++ [x]) W') (a₁ x) W)
    (hdone : ∀ (xs : List α) (W : World), S xs → I xs W → W.heap[w.heap.size]? = some (.deferred (some [])) → Q .normal { a with defers := { target := .collected w.heap.size, args := #[] } :: a.defers } W) :
    (Code.rangeFunc g ps assign body).wpIn F n P Q a w := by
  refine wpIn_rangeFunc fun fn hfn => ?_
  rw [hro]
  let st : LoopState → Loop := fun s => { state := s, pending := none, fn, tmps := a.tmps, params := ps, assign, body, defers := w.heap.size }
  obtain ⟨V, hV⟩ : ∃ V, (w.alloc (.deferred (some []))).alloc (.loop (st .ready)) = V := ⟨_, rfl⟩
  have hVl : V.heap[w.heap.size + 1]? = some (.loop (st .ready)) := by
    have := World.alloc_heap_new (w.alloc (.deferred (some []))) (.loop (st .ready))
    rw [World.size_alloc, hV] at this; exact this
  have hVd : V.heap[w.heap.size]? = some (.deferred (some [])) := by rw [← hV]; exact (Below.heap_alloc _ _ _ (by simp)).trans (World.alloc_heap_new w _)
  have hVI : I [] V := by
    rw [← hV]
    exact hI _ _ _ (hI _ _ _ h0 (World.grownBy_alloc _ _ none)) (World.grownBy_alloc _ _ none)
  have hVb : Below w0.heap.size w0 V := by rw [← hV]; exact hb0.trans ((((Below.refl _ w).alloc (Nat.le_refl _) _).alloc (by simp) _).mono hb0.size)
  refine ⟨w.heap.size + 1, [{ target := .collected w.heap.size, args := #[] }], V, { target := .fn (.func gf) lb, args := #[.func (.yield (w.heap.size + 1)) #[] #[]] }, V, gf,
    #[.func (.yield (w.heap.size + 1)) #[] #[]] ++ lb, V, ?_, ?_, ?_, ?_, fun _ => h1, ?_⟩
  · rw [← hV]; exact run_enterLoop_outer _ _ _ _ _
  · simp only [resolve, hg]
    simp [go_sem]
  · intro f' hf'; simp [Target.leads] at hf'; subst hf'; exact hFg
  · simp [invoke, go_sem, eg]
  refine (hseq (w.heap.size + 1) (fun s W => I s W ∧ W.heap[w.heap.size + 1]? = some (.loop (st .ready)) ∧ W.heap[w.heap.size]? = some (.deferred (some []))) V hVb ?_ ?_ ⟨hVI, hVl, hVd⟩).mono ?_
  · rintro s A B ⟨i1, i2, i3⟩ hgr
    exact ⟨hI _ _ _ i1 hgr, (hgr.block _ (heap_lt i2) (by simp)).trans i2, (hgr.block _ (heap_lt i3) (by simp)).trans i3⟩
  · rintro pre x W ⟨i1, i2, i3⟩ hpre
    have hlt := heap_lt i2
    refine ⟨fn, _, assign, body, run_yield (P := P) (args := encs x) i2 (by exact hps x), roundIn_of_wpIn hfn (hassign _ x W _ ⟨_, run_beginRound i2 rfl, ?_⟩)⟩
    have j2 : (W.putObj (w.heap.size + 1) (.loop (st .busy))).heap[w.heap.size + 1]? = some (.loop (st .busy)) := World.putObj_heap_same hlt
    have j3 : (W.putObj (w.heap.size + 1) (.loop (st .busy))).heap[w.heap.size]? = some (.deferred (some [])) := (World.putObj_heap_other (by omega)).trans i3
    have jK : Kp W (W.putObj (w.heap.size + 1) (.loop (st .busy))) := hKl _ _ _ i2
    refine wpIn_mono (hbody _ pre x _ (hIl _ _ _ _ i1 i2) hpre (heap_lt j2)) ?_
    rintro e a3 W3 ⟨rfl, hsame, hK3, hI3⟩
    have m2 := (hsame (w.heap.size + 1) (by omega) (Nat.le_refl _)).trans j2
    have m3 := (hsame w.heap.size (Nat.le_refl _) (by omega)).trans j3
    exact ⟨_, _, run_endRound (P := P) none m2, rfl, ⟨hIl _ _ _ _ hI3 m2, World.putObj_heap_same (heap_lt m2), (World.putObj_heap_other (by omega)).trans m3⟩, hKt (hKt jK hK3) (hKl _ _ _ m2)⟩
  · rintro e W2 ⟨⟨v, rfl⟩, xs, hS, i1, i2, i3⟩
    exact ⟨none, _, run_endLoop (P := P) i2 (by simp [st]), hdone xs _ hS (hIl _ _ _ _ i1 i2) ((World.putObj_heap_other (by omega)).trans i3)⟩
end

end Go.Proofs.YtehmnmpkfbginaaGreat
