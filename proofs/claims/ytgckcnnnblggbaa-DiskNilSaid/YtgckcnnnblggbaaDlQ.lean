/- Disk: All, the iterator over a telling of the files. -/
import Derived.Test.YtgckcnnnblggbaaDlH
namespace Go.Proofs.Ytgckcnnnblggbaa
open Go.RowKit Go.Maps Go.Shelf

theorem FilesAt.at_ {w : World} {lo bo : Nat} {v : Value} {cs : List (List Value)} {L : List (List UInt8 × List UInt8)} (h : FilesAt w lo bo v cs L) : ∃ a c, v = .slice a L.length c ∧ ∀ (i : Nat) d, L[i]? = some d → ∃ g cur, a = some ⟨g, 0, none⟩ ∧ w.heap[g]? = some (.cells cur 30 (0, 0)) ∧ cur[i * 2]? = some (sv d.1) ∧ ∃ ua uc, cur[i * 2 + 1]? = some (.slice ua d.2.length uc) := by
  have hrow := h.row
  rcases hrow.2 with ⟨rfl, hz⟩ | ⟨g, cap, cur, rfl, _, hg, _, _, _, ht⟩
  · refine ⟨none, 0, by rw [hz], fun i d hd => ?_⟩
    have := List.length_eq_zero_iff.1 hz
    subst this
    simp at hd
  · refine ⟨_, cap, rfl, fun i d hd => ⟨g, cur, rfl, hg, ?_⟩⟩
    have hi : i < cs.length := by rw [h.count]; exact (List.getElem?_eq_some_iff.1 hd).1
    obtain ⟨U, hc, hU⟩ := h.file i cs[i] d (by simp) hd
    obtain ⟨ua, uc, rfl, _, _, hr, _⟩ := hU
    have hflat : ∀ (cs : List (List Value)) (i : Nat) (hi : i < cs.length), (∀ c ∈ cs, c.length = 2) → ∀ (j : Nat) u, j < 2 → (cs[i])[j]? = some u → cs.flatten[i * 2 + j]? = some u := by
      intro cs
      induction cs with
      | nil => intro i hi; simp at hi
      | cons c r ih =>
        intro i hi hl j u hj hu
        have hc2 := hl c List.mem_cons_self
        cases i with
        | zero => simp at hu; rw [List.flatten_cons, List.getElem?_append_left (by omega)]; simpa using hu
        | succ i =>
          rw [List.flatten_cons, List.getElem?_append_right (by omega)]
          have := ih i (by simpa using hi) (fun c hc => hl c (List.mem_cons_of_mem _ hc)) j u hj (by simpa using hu)
          rw [show (i + 1) * 2 + j - c.length = i * 2 + j from by omega]
          exact this
    have hl2 : ∀ c ∈ cs, c.length = 2 := fun c hcm => by
      obtain ⟨k, hk, rfl⟩ := List.getElem_of_mem hcm
      obtain ⟨d', hd'⟩ : ∃ d', L[k]? = some d' := ⟨L[k]'(by rw [← h.count]; exact hk), by simp⟩
      obtain ⟨U, e, _⟩ := h.file k cs[k] d' (by simp) hd'
      rw [e]; rfl
    have hcell : ∀ (j : Nat) u, j < L.length * 2 → cs.flatten[j]? = some u → cur[j]? = some u := fun j u hj hu => by
      have : cur.toList[j]? = some u := by rw [← ht, List.getElem?_take] at hu; simpa [hj] using hu
      simpa using this
    have hiL : i < L.length := (List.getElem?_eq_some_iff.1 hd).1
    exact ⟨hcell (i * 2) _ (by omega) (hflat cs i hi hl2 0 _ (by omega) (by rw [hc]; rfl)), ua, uc, hcell (i * 2 + 1) _ (by omega) (hflat cs i hi hl2 1 _ (by omega) (by rw [hc]; rfl))⟩

theorem All_any (a : Option Addr) (w : World) : Calls Try.prog 69 #[.pointer a] w fun e w' =>
    e = .returned (.func (.func 75) #[] #[.pointer (some ⟨w.heap.size, 0, none⟩)]) ∧ w' = w.alloc (.cells #[.pointer a] 24) := by
  go_enter Try.func69, Try.ntmps69
  go_wp2
  go_ret
  exact ⟨rfl, rfl⟩

/-- what the iterator hands out: the i-th name, and how many bytes its file has -/
def itemA (L : List (List UInt8 × List UInt8)) (i : Fin L.length) : Array Value := #[sv L[i].1, .int .i64 (L[i].2.length : Int)]

set_option maxRecDepth 100000 in
set_option maxHeartbeats 4000000 in
theorem all1_stops (n : Nat) (hn : 1 ≤ n) {w : World} {a : Option Addr} {L : List (List UInt8 × List UInt8)} (hL : L.length ≤ maxList)
    (hF : ∀ W, Below w.heap.size w W → Calls Try.prog 31 #[.pointer a] W fun e w' => ∃ v cs, e = .returned v ∧ FilesAt w' W.heap.size (W.heap.size + 1) v cs L ∧ Below W.heap.size W w')
    {bd : Nat} (hbd : Boxed w bd 24 (.pointer a)) (hi : Nat) (kt : TypeId → Prop) (k3 : kt 30) :
    SeqStopsK Fence.wide n Try.prog 75 #[.pointer (some ⟨bd, 0, none⟩)] (itemA L) (KpT hi kt) (fun xs => xs = List.finRange L.length) (fun pre => pre <+: List.finRange L.length) L.length w := by
  intro l J Jx W hW hJ hJx hY h0
  have hmx : maxList = 4194304 := rfl
  have hbx : Boxed W bd 24 (.pointer a) := (hW.block bd hbd.lt).trans hbd
  have cF := (callsIn_wide (n := n - 1)).2 (hF W hW)
  refine callsIn_of_wp Try.func75 rfl trivial ?_ rfl
  simp only [Try.ntmps75, List.size_toArray, List.length_cons, List.length_nil, Nat.reduceAdd, Nat.reduceSub, Array.replicate_succ, Array.replicate_zero, List.push_toArray, List.append_toArray, List.nil_append, List.cons_append]
  have HY := Lib.hid hY; clear hY
  have c5 := hbx.cell
  have hf31 : Fence.wide.fn 31 := trivial
  gi_wp2_with (gi_at_call 31; refine cF.mono ?_; rintro e1 W1 ⟨v, cs, rfl, hfa, hb1⟩; obtain ⟨va, vc, rfl, hat⟩ := hfa.at_)
  have hJ1 : J [] W1 := hJ [] W W1 none h0 (Below.grownBy hb1) (fun r e => by cases e)
  have hb01 := bthen hW hb1
  obtain ⟨xs, hxs⟩ : ∃ xs, xs = List.finRange L.length := ⟨_, rfl⟩
  have hlen : xs.length = L.length := by rw [hxs]; simp
  have hget : ∀ k (hk : k < L.length), xs[k]? = some ⟨k, hk⟩ := fun k hk => by rw [hxs]; exact finRange_get _ _ hk
  have hsz1 := hb01.size
  have hsz2 := hb1.size
  gi_loopw [8] (fun i wr => ∃ k : Nat, k ≤ L.length ∧ i = .int .i64 k ∧ J (xs.take k) wr ∧ KpT hi kt W1 wr) (fun i _ => L.length - (RowKit.intOf i).toNat)
  case atStart => exact ⟨0, by omega, rfl, by simpa using hJ1, KpT.refl _ _ _⟩
  case round =>
    obtain ⟨k, hk, rfl, hJs, hkp⟩ := hrel
    by_cases hlt : k < L.length
    · obtain ⟨nb, hnb⟩ : ∃ nb, L[k].1 = nb := ⟨_, rfl⟩
      obtain ⟨ln, hln⟩ : ∃ ln, L[k].2.length = ln := ⟨_, rfl⟩
      obtain ⟨g, cur, rfl, hg, q0, ua, uc, q1⟩ := hat k L[k] (by simp)
      rw [hnb] at q0
      rw [hln] at q1
      unfold sv at q0
      have hgr := hkp.2 g _ hg (.inr ⟨_, _, _, rfl, k3⟩)
      have d0 := cell_of_heap hgr q0
      have d1 := cell_of_heap hgr q1
      obtain ⟨W2, hW2⟩ : ∃ W2, wr.alloc (.cells #[.string ⟨nb.toArray⟩, .slice ua ln uc] 30) = W2 := ⟨_, rfl⟩
      have hb2 : Below wr.heap.size wr W2 := by rw [← hW2]; exact below_alloc _ _
      have hbw : W2.heap[wr.heap.size]? = some (.cells #[.string ⟨nb.toArray⟩, .slice ua ln uc] 30 (0, 0)) := by rw [← hW2]; exact World.alloc_heap_new wr _
      have e0 := cell_of_heap hbw (i := 0) (v := .string ⟨nb.toArray⟩) (by rfl)
      have e1 := cell_of_heap hbw (i := 1) (v := .slice ua ln uc) (by rfl)
      have hx := hget k hlt
      have hJd : J (xs.take k) W2 := hJ _ wr W2 none hJs (Below.grownBy hb2) (fun r e => by cases e)
      obtain ⟨fn, tmps, assign, body, hy, hR⟩ := HY.out _ ⟨k, hlt⟩ W2 hJd (by simp [hlen]; omega)
      have hstep : xs.take k ++ [⟨k, hlt⟩] = xs.take (k + 1) := by rw [List.take_add_one, hx]; rfl
      rw [hstep] at hR
      simp only [itemA, Fin.getElem_fin, hnb, hln, sv] at hy
      have HST := Lib.hid hstep; clear hstep hx
      have j0 : (0 : Int) ≤ (k : Int) := by omega
      have j1 : (k : Int) < (L.length : Int) := by omega
      clear hat q0 q1 hgr hg hnb hln
      have HK2 := Lib.hid (KpT.of_below (hi := hi) (kt := kt) hb2)
      gi_wp2_with (refine hR.mono ?_; rintro e3 W3 hcase; obtain ⟨bq, rfl, hq⟩ : ∃ bq, e3 = .returned (.bool bq) ∧ ((bq = true ∧ J (xs.take (k + 1)) W3 ∧ KpT hi kt W2 W3) ∨ (bq = false ∧ Jx (xs.take (k + 1)) W3)) := by rcases hcase with ⟨h1, h2, h3⟩ | ⟨h1, h2⟩; exact ⟨true, h1, .inl ⟨rfl, h2, h3⟩⟩; exact ⟨false, h1, .inr ⟨rfl, h2⟩⟩)
      all_goals first
        | exact bodyPost_ret (results_none rfl _ _ _) rfl ⟨⟨_, rfl⟩, .inr ⟨_, by rw [← hxs]; exact List.take_prefix (k + 1) xs, by
            rcases hq with ⟨h, _⟩ | ⟨_, h⟩
            · subst h; simp_all
            · exact h⟩⟩
        | (obtain ⟨h1, h2⟩ : J (xs.take (k + 1)) W3 ∧ KpT hi kt W2 W3 := by
            rcases hq with ⟨_, h1, h2⟩ | ⟨h, _⟩
            · exact ⟨h1, h2⟩
            · subst h; simp_all
           exact ⟨⟨k + 1, by omega, by go_num, h1, (hkp.trans HK2.out).trans h2⟩, by simp [RowKit.intOf]; omega⟩)
    · obtain rfl : k = L.length := by omega
      gi_wp2
      go_end0
      exact ⟨⟨_, rfl⟩, .inl ⟨_, rfl, by rw [← hxs]; rwa [List.take_of_length_le (by omega)] at hJs⟩⟩

end Go.Proofs.Ytgckcnnnblggbaa
