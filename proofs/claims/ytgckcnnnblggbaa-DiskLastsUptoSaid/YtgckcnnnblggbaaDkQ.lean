/- Disk: Names. -/
import Derived.Test.YtgckcnnnblggbaaDkO
namespace Go.Proofs.Ytgckcnnnblggbaa
open Go.RowKit Go.Maps Go.Shelf

theorem before_lt : ∀ (a b : List UInt8), bytesBefore a b = true → a < b
  | [], [], h => by simp [bytesBefore] at h
  | [], _ :: _, _ => by simp
  | _ :: _, [], h => by simp [bytesBefore] at h
  | x :: r, y :: s, h => by
    simp only [bytesBefore, Bool.or_eq_true, Bool.and_eq_true, decide_eq_true_eq, beq_iff_eq] at h
    rcases h with h | ⟨rfl, h⟩
    · exact List.cons_lt_cons_iff.2 (.inl h)
    · exact List.cons_lt_cons_iff.2 (.inr ⟨rfl, before_lt r s h⟩)
theorem sorted_names {l : NL} (h : Rising l) {ss : List (List UInt8)} (hp : ss.Perm (Go.strKeys (nameD l))) : ss.mergeSort (fun x y => decide (x ≤ y)) = l.map (·.1) := by
  have e : Go.strKeys (nameD l) = l.map (·.1) := by
    simp [nameD, Go.strKeys, nameE, Go.strOf, Function.comp_def]
  rw [e] at hp
  have h1 := Go.mergeSort_of_perm hp
  show ss.mergeSort Go.leB = _
  rw [h1]
  apply List.mergeSort_of_pairwise
  rw [List.pairwise_map]
  refine List.Pairwise.imp (fun {a b} hab => ?_) h
  simp only [Go.leB, decide_eq_true_eq]
  exact List.le_of_lt (before_lt _ _ hab)

/-- maps.Keys of the names -/
theorem Keys_any (mb : Option Nat) (w : World) : Calls Try.prog 51 #[.map mb] w fun e w' =>
    e = .returned (.func (.func 65) #[] #[.pointer (some ⟨w.heap.size, 0, none⟩)]) ∧ w' = w.alloc (.cells #[.map mb] 61) :=
  (callsIn_wide (n := 5)).1 (AnyZ.keys_in Try.keysA Fence.wide 5 trivial rfl mb w)
theorem sortsA (m : Nat) : AnyZ.SortsIn Try.prog Try.sortedA_ren Fence.wide m :=
  ⟨fun blk off cap ss W hH hblk hsz => callsIn_wide.2 (AnyM.slices_Sort_string Try.sortA blk off cap ss W hH hblk hsz),
   fun p cap W => callsIn_wide.2 (AnyM.slices_Sort_string_none Try.sortA p cap W)⟩

/-- slices.Sorted of what that handed back -/
theorem Sorted_any (b nn : Nat) (l : NL) (hl : Rising l) (R : Value → Option (DataW Unit × List MemPlace)) (w : World) (hown : w.ownsMap Try.prog 9 R b nn (nameD l)) (hn : l.length ≤ 1000000000) :
    Calls Try.prog 50 #[.func (.func 65) #[] #[.pointer (some ⟨w.heap.size, 0, none⟩)]] (w.alloc (.cells #[.map (some b)] 61)) fun e w' =>
      ∃ v, e = .returned v ∧ w'.ownsRow (w.heap.size + 1) 9 1 v l.length ((l.map (·.1)).map sv) ∧ (v = .slice none 0 0 ↔ l = []) ∧ Below (w.heap.size + 1) (w.alloc (.cells #[.map (some b)] 61)) w' := by
  have hbl := hown.lt
  have hsz : Maps.size (nameD l) ≤ 1000000000 := by rw [nameD_size]; exact hn
  have hseq : SeqGives Fence.wide 2 Try.prog 65 #[.pointer (some ⟨w.heap.size, 0, none⟩)] Go.Proofs.encStr (fun ss => ss.Perm (Go.strKeys (nameD l))) (Maps.size (nameD l)) (w.alloc (.cells #[.map (some b)] 61)) :=
    AnyZ.keys_gives (ρ := Try.keysA_ren) { Try.keysA with } Fence.wide _ trivial rfl (by omega) w.heap.size b nn (nameD l) _ (by simp) (by simp) (by
      obtain ⟨es, clock, hb, Ft, hs, hD⟩ := hown
      exact ⟨es, clock, (Below.heap_alloc _ _ b hbl).trans hb, Ft, hs, hD⟩)
  have cS := AnyZ.sorted_in Try.sortedA Fence.wide 5 trivial trivial trivial trivial rfl (by omega) (sortsA _) (enters_of Try.func64 (by kernel_rfl) rfl) 65 #[.pointer (some ⟨w.heap.size, 0, none⟩)] trivial (enters_of Try.func65 (by kernel_rfl) rfl) _ _ (by unfold maxLen; omega) (by omega) _ hseq
  refine ((callsIn_wide (n := 5)).1 cS).mono ?_
  rintro e w' ⟨v, ss, rfl, hp, hr, hnil, hb⟩
  rw [World.size_alloc] at hr hb
  have hms := sorted_names hl hp
  rw [hms] at hr
  have hlen : ss.length = l.length := by
    have := hp.length_eq
    rw [this]; simp [nameD, Go.strKeys]
  rw [hlen] at hr
  refine ⟨v, rfl, hr, hnil.trans ?_, hb⟩
  constructor
  · rintro rfl; exact List.eq_nil_of_length_eq_zero (by simpa using hlen.symm)
  · rintro rfl; exact List.eq_nil_of_length_eq_zero (by simpa using hlen)

set_option maxHeartbeats 2000000 in
theorem Names_any {w : World} {p : Nat} {s : DSt} {R : Nat → Prop} {mf mn ms : Nat} {fb : List Nat} {vs vw : Value} {ss : List Value} {ws : List (List Value)} {e : TypeId} (h : DiskP w p s R mf mn ms fb vs vw ss ws e) {N : Nat} (hok : s.Ok N) (hN : N < maxList) :
    Calls Try.prog 20 #[.pointer (some ⟨p, 0, none⟩)] w fun e w' => ∃ v, e = .returned (.tuple #[v, .int .i64 0]) ∧ w'.ownsRow w.heap.size 9 1 v s.names.length ((s.names.map (·.1)).map sv) ∧ Below w.heap.size w w' := by
  have hth := there_any h.cells (mn := mn) (by rfl)
  have c2 := cell_of_heap h.cells (i := 2) (v := .map (some mn)) (by rfl)
  have hmx : maxList = 4194304 := rfl
  have hmn := hok.manyNames
  have cK := Keys_any (some mn) w
  have cS := Sorted_any mn _ s.names hok.rising _ w h.namesM (by omega)
  go_enter Try.func20, Try.ntmps20
  go_wp2_with (first | (go_at_call 45; refine hth.mono ?_; rintro e w1 ⟨rfl, rfl⟩) | (go_at_call 51; refine cK.mono ?_; rintro e w1 ⟨rfl, rfl⟩) | (go_at_call 50; refine cS.mono ?_; rintro e w1 ⟨v, rfl, hr, hnil, hb⟩; obtain ⟨va, vc, rfl⟩ := row_slice hr))
  go_ret2
  exact ⟨_, rfl, ownsRow_base_a hr (by omega), (below_alloc w _).trans (hb.mono (by omega))⟩

end Go.Proofs.Ytgckcnnnblggbaa
