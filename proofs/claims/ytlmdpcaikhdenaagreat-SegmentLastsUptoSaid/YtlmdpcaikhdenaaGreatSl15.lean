/- Texts of this claim, one behind the other: DkQ, DkS. -/
import Derived.Test.YtlmdpcaikhdenaaGreatSl14
import Derived.RangeFuncNested
import Derived.RangeFuncBound
import Derived.RangeFuncCalls
import Derived.RangeFuncLeaves
import Derived.RangeFuncFrom
import Derived.Shelf.Abstract
import Derived.Shelf.RegionOpen
import Derived.OwnWalkIn
import Derived.TacticsInMore
import Derived.LoopNIn
import Derived.LoopIn
import Derived.Maps.OwnIn
import Derived.Stop.RegionWithIn
set_option linter.unusedSimpArgs false
set_option linter.unusedVariables false
/- Disk: Names. -/
namespace Go.Proofs.YtlmdpcaikhdenaaGreat
open Go.RowKit Go.Maps Go.Shelf

theorem before_lt : ∀ (a b : List UInt8), bytesBefore a b = true → a < b
  | [], [], h => by simp [bytesBefore] at h
  | [], _ :: _, _ => by simp
  | _ :: _, [], h => by simp [bytesBefore] at h
  | x :: r, y :: s, h => by
    simp only [bytesBefore, Bool.or_eq_true, Bool.and_eq_true, decide_eq_true_eq, beq_iff_eq] at h
    rcases h with h | ⟨rfl, h⟩
    · exact List.cons_lt_cons_iff.2 (.inl h)
    · exact List.cons_lt_cons_iff.2 (.inr ⟨rfl, before_lt r s h⟩)
theorem sorted_names {l : NL} (h : Rising l) {ss : List (List UInt8)} (hp : ss.Perm (Go.strKeys (nameD l))) : ss.mergeSort (fun x y => decide (x ≤ y)) = l.map (·.1) := by
  have e : Go.strKeys (nameD l) = l.map (·.1) := by
    simp [nameD, Go.strKeys, nameE, Go.strOf, Function.comp_def]
  rw [e] at hp
  have h1 := Go.mergeSort_of_perm hp
  show ss.mergeSort Go.leB = _
  rw [h1]
  apply List.mergeSort_of_pairwise
  rw [List.pairwise_map]
  refine List.Pairwise.imp (fun {a b} hab => ?_) h
  simp only [Go.leB, decide_eq_true_eq]
  exact List.le_of_lt (before_lt _ _ hab)

/-- maps.Keys of the names -/
theorem Keys_any (mb : Option Nat) (w : World) : Calls Tryz.prog 53 #[.map mb] w fun e w' =>
    e = .returned (.func (.func 88) #[] #[.pointer (some ⟨w.heap.size, 0, none⟩)]) ∧ w' = w.alloc (.cells #[.map mb] 109) :=
  (callsIn_wide (n := 5)).1 (AnyZ.keys_in Tryz.keysA Fence.wide 5 trivial rfl mb w)
theorem sortsA (m : Nat) : AnyZ.SortsIn Tryz.prog Tryz.sortedA_ren Fence.wide m :=
  ⟨fun blk off cap ss W hH hblk hsz => callsIn_wide.2 (AnyM.slices_Sort_string Tryz.sortA blk off cap ss W hH hblk hsz),
   fun p cap W => callsIn_wide.2 (AnyM.slices_Sort_string_none Tryz.sortA p cap W)⟩

/-- slices.Sorted of what that handed back -/
theorem Sorted_any (b nn : Nat) (l : NL) (hl : Rising l) (R : Value → Option (DataW Unit × List MemPlace)) (w : World) (hown : w.ownsMap Tryz.prog 9 R b nn (nameD l)) (hn : l.length ≤ 1000000000) :
    Calls Tryz.prog 52 #[.func (.func 88) #[] #[.pointer (some ⟨w.heap.size, 0, none⟩)]] (w.alloc (.cells #[.map (some b)] 109)) fun e w' =>
      ∃ v, e = .returned v ∧ w'.ownsRow (w.heap.size + 1) 9 1 v l.length ((l.map (·.1)).map sv) ∧ (v = .slice none 0 0 ↔ l = []) ∧ Below (w.heap.size + 1) (w.alloc (.cells #[.map (some b)] 109)) w' := by
  have hbl := hown.lt
  have hsz : Maps.size (nameD l) ≤ 1000000000 := by rw [nameD_size]; exact hn
  have hseq : SeqGives Fence.wide 2 Tryz.prog 88 #[.pointer (some ⟨w.heap.size, 0, none⟩)] Go.Proofs.encStr (fun ss => ss.Perm (Go.strKeys (nameD l))) (Maps.size (nameD l)) (w.alloc (.cells #[.map (some b)] 109)) :=
    AnyZ.keys_gives (ρ := Tryz.keysA_ren) { Tryz.keysA with } Fence.wide _ trivial rfl (by omega) w.heap.size b nn (nameD l) _ (by simp) (by simp) (by
      obtain ⟨es, clock, hb, Ft, hs, hD⟩ := hown
      exact ⟨es, clock, (Below.heap_alloc _ _ b hbl).trans hb, Ft, hs, hD⟩)
  have cS := AnyZ.sorted_in Tryz.sortedA Fence.wide 5 trivial trivial trivial trivial rfl (by omega) (sortsA _) (enters_of Tryz.func87 (by kernel_rfl) rfl) 88 #[.pointer (some ⟨w.heap.size, 0, none⟩)] trivial (enters_of Tryz.func88 (by kernel_rfl) rfl) _ _ (by unfold maxLen; omega) (by omega) _ hseq
  refine ((callsIn_wide (n := 5)).1 cS).mono ?_
  rintro e w' ⟨v, ss, rfl, hp, hr, hnil, hb⟩
  rw [World.size_alloc] at hr hb
  have hms := sorted_names hl hp
  rw [hms] at hr
  have hlen : ss.length = l.length := by
    have := hp.length_eq
    rw [this]; simp [nameD, Go.strKeys]
  rw [hlen] at hr
  refine ⟨v, rfl, hr, hnil.trans ?_, hb⟩
  constructor
  · rintro rfl; exact List.eq_nil_of_length_eq_zero (by simpa using hlen.symm)
  · rintro rfl; exact List.eq_nil_of_length_eq_zero (by simpa using hlen)

set_option maxHeartbeats 2000000 in
theorem Names_any {w : World} {p : Nat} {s : DSt} {R : Nat → Prop} {mf mn ms : Nat} {fb : List Nat} {vs vw : Value} {ss : List Value} {ws : List (List Value)} {e : TypeId} (h : DiskP w p s R mf mn ms fb vs vw ss ws e) {N : Nat} (hok : s.Ok N) (hN : N < maxList) :
    Calls Tryz.prog 111 #[.pointer (some ⟨p, 0, none⟩)] w fun e w' => ∃ v, e = .returned (.tuple #[v, .int .i64 0]) ∧ w'.ownsRow w.heap.size 9 1 v s.names.length ((s.names.map (·.1)).map sv) ∧ Below w.heap.size w w' := by
  have hth := there_any h.cells (mn := mn) (by rfl)
  have c2 := cell_of_heap h.cells (i := 2) (v := .map (some mn)) (by rfl)
  have hmx : maxList = 4194304 := rfl
  have hmn := hok.manyNames
  have cK := Keys_any (some mn) w
  have cS := Sorted_any mn _ s.names hok.rising _ w h.namesM (by omega)
  go_enter Tryz.func111, Tryz.ntmps111
  go_wp2_with (first | (go_at_call 49; refine hth.mono ?_; rintro e w1 ⟨rfl, rfl⟩) | (go_at_call 53; refine cK.mono ?_; rintro e w1 ⟨rfl, rfl⟩) | (go_at_call 52; refine cS.mono ?_; rintro e w1 ⟨v, rfl, hr, hnil, hb⟩; obtain ⟨va, vc, rfl⟩ := row_slice hr))
  go_ret2
  exact ⟨_, rfl, ownsRow_base_a hr (by omega), (below_alloc w _).trans (hb.mono (by omega))⟩

end Go.Proofs.YtlmdpcaikhdenaaGreat
/- Disk: the iterator over the files. -/
namespace Go.Proofs.YtlmdpcaikhdenaaGreat
open Go.RowKit Go.Maps Go.Shelf
attribute [local go_sem] Oper.semAt_some

/-- what a round of a loop keeps: all below hi, and cells of the types kt, wherever -/
def KpT (hi : Nat) (kt : TypeId → Prop) (W W' : World) : Prop :=
  W.heap.size ≤ W'.heap.size ∧ ∀ b o, W.heap[b]? = some o → (b < hi ∨ ∃ cs t fr, o = .cells cs t fr ∧ kt t) → W'.heap[b]? = some o
theorem KpT.refl (hi : Nat) (kt : TypeId → Prop) (W : World) : KpT hi kt W W := ⟨Nat.le_refl _, fun _ _ h _ => h⟩
theorem KpT.trans {hi : Nat} {kt : TypeId → Prop} {A B C : World} (h : KpT hi kt A B) (k : KpT hi kt B C) : KpT hi kt A C :=
  ⟨Nat.le_trans h.1 k.1, fun b o hb h1 => k.2 b o (h.2 b o hb h1) h1⟩
theorem KpT.of_below {hi : Nat} {kt : TypeId → Prop} {A B : World} (h : Below A.heap.size A B) : KpT hi kt A B := ⟨h.size, fun b _ hb _ => (h.block b (heap_lt hb)).trans hb⟩
theorem KpT.of_chg {hi : Nat} {kt : TypeId → Prop} {O : Nat → Prop} {A B : World} (h : Chg O A B) (h1 : ∀ b, O b → hi ≤ b) (h2 : ∀ b cs t fr, O b → A.heap[b]? = some (.cells cs t fr) → ¬ kt t) : KpT hi kt A B :=
  ⟨h.size, fun b o hb ho => h.obj hb (fun hO => by
    rcases ho with ho | ⟨cs, t, fr, rfl, ht⟩
    · have := h1 b hO; omega
    · exact h2 b cs t fr hO hb ht)⟩
theorem KpT.putObj {hi : Nat} {kt : TypeId → Prop} (W : World) (l : Nat) (o o' : Obj) (h : hi ≤ l) (hl : W.heap[l]? = some o) (hc : o.isCells = false) : KpT hi kt W (W.putObj l o') := by
  refine ⟨by simp, fun b ob hb h2 => ?_⟩
  by_cases e : b = l
  · subst e
    rw [hl] at hb
    cases hb
    rcases h2 with h2 | ⟨cs, t, fr, rfl, _⟩
    · omega
    · cases hc
  · exact (World.putObj_heap_other e).trans hb
theorem KpT.map {hi : Nat} {kt : TypeId → Prop} {W W' : World} (h : KpT hi kt W W') {P : Program} {k : TypeId} {R : Value → Option (DataW Unit × List MemPlace)} {b n : Nat} {D : DataW Unit} (hm : W.ownsMap P k R b n D) (hb : b < hi) : W'.ownsMap P k R b n D := by
  obtain ⟨es, clock, h1, F, hs, hD⟩ := hm
  exact ⟨es, clock, h.2 b _ h1 (.inl hb), F, hs, hD⟩
theorem KpT.row {hi : Nat} {kt : TypeId → Prop} {W W' : World} (h : KpT hi kt W W') {base : Nat} {e : TypeId} {size n : Nat} {v : Value} {xs : List Value} (hr : W.ownsRow base e size v n xs) (ht : kt e) : W'.ownsRow base e size v n xs := by
  obtain ⟨h1, h2⟩ := hr
  refine ⟨h1, h2.imp id ?_⟩
  rintro ⟨g, cap, cur, rfl, h3, h4, h5⟩
  exact ⟨g, cap, cur, rfl, h3, h.2 g _ h4 (.inr ⟨_, _, _, rfl, ht⟩), h5⟩
theorem rising_find {l : NL} (h : Rising l) {k : List UInt8} {n : Nat} (hm : (k, n) ∈ l) : nlFind l k = some n := by
  have hp := rising_ne h
  clear h
  induction l with
  | nil => cases hm
  | cons y r ih =>
    obtain ⟨h1, h2⟩ := List.pairwise_cons.1 hp
    unfold nlFind
    rw [List.find?_cons]
    rcases List.mem_cons.1 hm with rfl | hm
    · simp
    · have hne : (y.1 == k) = false := by simpa using h1 _ hm
      rw [hne]
      exact ih hm h2

/-- what the iterator hands out: the i-th name, and where its file lies -/
def itemD (s : DSt) (fb : List Nat) (i : Fin s.names.length) : Array Value := #[sv s.names[i].1, .pointer (some ⟨fb.getD s.names[i].2 0, 0, none⟩)]
theorem finRange_get (n k : Nat) (hk : k < n) : (List.finRange n)[k]? = some ⟨k, hk⟩ := by simp [hk]

set_option maxRecDepth 100000 in
set_option maxHeartbeats 4000000 in
theorem each1_stops (n : Nat) (hn : 1 ≤ n) {w : World} {p : Nat} {s : DSt} {R : Nat → Prop} {mf mn ms : Nat} {fb : List Nat} {vs vw : Value} {ss : List Value} {ws : List (List Value)} {e : TypeId} (h : DiskP w p s R mf mn ms fb vs vw ss ws e) {N : Nat} (hok : s.Ok N) (hN : N < maxList)
    {bd : Nat} (hbd : Boxed w bd 45 (.pointer (some ⟨p, 0, none⟩))) (hi : Nat) (hown : ∀ b ∈ ownL p mf mn vs vw fb, b < hi) (kt : TypeId → Prop) (k1 : kt 45) (k3 : kt 9) :
    SeqStopsK Fence.wide n Tryz.prog 110 #[.pointer (some ⟨bd, 0, none⟩)] (itemD s fb) (KpT hi kt) (fun xs => xs = List.finRange s.names.length) (fun pre => pre <+: List.finRange s.names.length) s.names.length w := by
  intro l J Jx W hW hJ hJx hY h0
  have hmx : maxList = 4194304 := rfl
  have hD := h.below hW
  have hbx : Boxed W bd 45 (.pointer (some ⟨p, 0, none⟩)) := (hW.block bd hbd.lt).trans hbd
  have cN := (callsIn_wide (n := n - 1)).2 (Names_any hD hok hN)
  have hmn := hok.manyNames
  refine callsIn_of_wp Tryz.func110 rfl trivial ?_ rfl
  simp only [Tryz.ntmps110, List.size_toArray, List.length_cons, List.length_nil, Nat.reduceAdd, Nat.reduceSub, Array.replicate_succ, Array.replicate_zero, List.push_toArray, List.append_toArray, List.nil_append, List.cons_append]
  have HY := Lib.hid hY; clear hY
  have c5 := hbx.cell
  have hf20 : Fence.wide.fn 111 := trivial
  gi_wp2_with (gi_at_call 111; refine cN.mono ?_; rintro e1 W1 ⟨v, rfl, hrow, hb1⟩; obtain ⟨va, vc, rfl⟩ := row_slice hrow)
  have hJ1 : J [] W1 := hJ [] W W1 none h0 (Below.grownBy hb1) (fun r e => by cases e)
  have hb01 := bthen hW hb1
  obtain ⟨xs, hxs⟩ : ∃ xs, xs = List.finRange s.names.length := ⟨_, rfl⟩
  have hlen : xs.length = s.names.length := by rw [hxs]; simp
  have hget : ∀ k (hk : k < s.names.length), xs[k]? = some ⟨k, hk⟩ := fun k hk => by rw [hxs]; exact finRange_get _ _ hk
  have hsz1 := hb01.size
  have hsz2 := hb1.size
  gi_loopw [14] (fun i wr => ∃ k : Nat, k ≤ s.names.length ∧ i = .int .i64 k ∧ J (xs.take k) wr ∧ KpT hi kt W1 wr) (fun i _ => s.names.length - (RowKit.intOf i).toNat)
  case atStart => exact ⟨0, by omega, rfl, by simpa using hJ1, KpT.refl _ _ _⟩
  case round =>
    obtain ⟨k, hk, rfl, hJs, hkp⟩ := hrel
    by_cases hlt : k < s.names.length
    · have hD1 := h.below hb01
      have hcells := hkp.2 p _ hD1.cells (.inl (hown _ mem_own_p))
      have hbox := hkp.2 bd _ ((hb01.block bd hbd.lt).trans hbd) (.inr ⟨_, _, _, rfl, k1⟩)
      have c0 := cell_of_heap hcells (i := 1) (v := .map (some mf)) (by rfl)
      have c2 := cell_of_heap hcells (i := 2) (v := .map (some mn)) (by rfl)
      have cb := (show Boxed wr bd 45 (.pointer (some ⟨p, 0, none⟩)) from hbox).cell
      have hnm := hkp.map hD1.namesM (hown _ mem_own_mn)
      have hfm := hkp.map hD1.filesM (hown _ mem_own_mf)
      have hrw := hkp.row hrow k3
      obtain ⟨nm, m, hnmm⟩ : ∃ nm m, s.names[k] = (nm, m) := ⟨_, _, rfl⟩
      have hmem : (nm, m) ∈ s.names := by rw [← hnmm]; exact List.getElem_mem hlt
      obtain ⟨hm, hok1⟩ := hok.names _ hmem
      have hmfb : m < fb.length := by have := h.count; simp only at hm; omega
      have hm63 : m < 9223372036854775808 := by have := hok.manyFiles; simp only at hm; omega
      have hl1 : (Instr.lookup 109 (.map (some mn)) (.string ⟨nm.toArray⟩) false).run Tryz.prog wr.drew = .ok (.int .i64 (m : Int)) wr.drew := by
        have := look_name1 (w := wr.drew) (b := mn) (l := s.names) hnm (k := nm) (by have : nm.length ≤ 64 := hok1.2.1; unfold maxLen; omega)
        rw [rising_find hok.rising hmem] at this
        exact this
      have hl2 : (Instr.lookup 107 (.map (some mf)) (.int .i64 (m : Int)) false).run Tryz.prog wr.drew = .ok (.pointer (some ⟨fb[m], 0, none⟩)) wr.drew := look_file (w := wr.drew) hfm hmfb hm63
      obtain ⟨_, _, hve, hra, _⟩ := RowAt.of_owns hrw
      simp only [Value.slice.injEq] at hve
      obtain ⟨rfl, _, rfl⟩ := hve
      obtain ⟨gb, go, rfl, hcx⟩ := hra.at_ (k := k) (by simpa using hlt)
      simp only [List.getElem_map, hnmm] at hcx
      have hx := hget k hlt
      have hfbm : fb.getD m 0 = fb[m] := by simp [hmfb]
      have hJd : J (xs.take k) wr.drew := hJ _ wr wr.drew none hJs (Below.grownBy (Below.refl _ _).drew) (fun r e => by cases e)
      obtain ⟨fn, tmps, assign, body, hy, hR⟩ := HY.out _ ⟨k, hlt⟩ wr.drew hJd (by simp [hlen]; omega)
      have hstep : xs.take k ++ [⟨k, hlt⟩] = xs.take (k + 1) := by rw [List.take_add_one, hx]; rfl
      rw [hstep] at hR
      simp only [itemD, Fin.getElem_fin, hnmm, hfbm, sv] at hy hcx
      have HST := Lib.hid hstep; clear hstep hx
      have j0 : (0 : Int) ≤ (k : Int) := by omega
      have j1 : (k : Int) < (s.names.length : Int) := by omega
      obtain ⟨fbm, hfe⟩ : ∃ fbm, fbm = fb[m] := ⟨_, rfl⟩
      rw [← hfe] at hy hl2
      have HFE := Lib.hid hfe; clear hfe hfbm
      gi_wp2_with fail
      gi_region_with (refine hR.mono ?_; rintro e3 W3 hcase; obtain ⟨bq, rfl, hq⟩ : ∃ bq, e3 = .returned (.bool bq) ∧ ((bq = true ∧ J (xs.take (k + 1)) W3 ∧ KpT hi kt wr.drew W3) ∨ (bq = false ∧ Jx (xs.take (k + 1)) W3)) := by rcases hcase with ⟨h1, h2, h3⟩ | ⟨h1, h2⟩; exact ⟨true, h1, .inl ⟨rfl, h2, h3⟩⟩; exact ⟨false, h1, .inr ⟨rfl, h2⟩⟩)
      all_goals
        clear hcase
        rcases hq with ⟨rfl, hq1, hq2⟩ | ⟨rfl, hq1⟩
        · have hkp2 : KpT hi kt W1 W3 := (hkp.trans (KpT.of_below (Below.refl _ _).drew)).trans hq2
          gi_wp2
          go_roundw
          case rel => exact ⟨k + 1, by omega, by go_num, hq1, hkp2⟩
          case measure => simp [RowKit.intOf]; omega
        · have hpre := List.take_prefix (k + 1) xs
          gi_wp2
          exact bodyPost_ret (results_none rfl _ _ _) rfl ⟨⟨_, rfl⟩, .inr ⟨_, by rw [← hxs]; exact hpre, hq1⟩⟩
    · obtain rfl : k = s.names.length := by omega
      gi_wp2
      go_end0
      exact ⟨⟨_, rfl⟩, .inl ⟨_, rfl, by rw [← hxs]; rwa [List.take_of_length_le (by omega)] at hJs⟩⟩

end Go.Proofs.YtlmdpcaikhdenaaGreat
