/- Walks of the names layer: Numbers; the plain law of a kind's numbers. -/
import Derived.Test.YtfoaoofaldiajaaNm7
namespace Go.Proofs.Ytfoaoofaldiajaa
open Go.RowKit Go.Maps

/-- THE NUMBERS OF A KIND's NAMES: rising, each once -/
def IsNums (kind : Int) (L : List (List UInt8)) (ns : List Int) : Prop :=
  ns.Pairwise (· < ·) ∧ ∀ x, x ∈ ns ↔ ((0 < kind ∧ kind ≤ 4) ∧ ∃ l ∈ L, ((parse l).1 : Int) = kind ∧ ((parse l).2 : Int) = x)

theorem sorted_ext : ∀ (ns ms : List Int), ns.Pairwise (· < ·) → ms.Pairwise (· < ·) → (∀ x, x ∈ ns ↔ x ∈ ms) → ns = ms := by
  intro ns ms h1 h2 h
  have n1 : ns.Nodup := h1.imp (fun h => Int.ne_of_lt h)
  have n2 : ms.Nodup := h2.imp (fun h => Int.ne_of_lt h)
  exact List.Perm.eq_of_pairwise (le := fun a b => a < b) (fun a b _ _ x y => by omega) h1 h2 ((List.perm_ext_iff_of_nodup n1 n2).2 h)
theorem IsNums.unique {kind : Int} {L : List (List UInt8)} {ns ms : List Int} (h : IsNums kind L ns) (h' : IsNums kind L ms) : ns = ms :=
  sorted_ext ns ms h.1 h'.1 fun x => (h.2 x).trans (h'.2 x).symm

theorem keyLit_int (k : IntKind) (x : Int) : WideAt.IsKeyLit (.int k x) := by simp [WideAt.IsKeyLit]
theorem numMap_isMap (kind : Int) (L : List (List UInt8)) : ∀ k, IsMap (numMap kind L k)
  | 0 => isMap_empty
  | k + 1 => by unfold numMap; split; exact (numMap_isMap kind L k).put _ _; exact numMap_isMap kind L k
theorem has_numMap (kind : Int) (L : List (List UInt8)) (x : Int) : ∀ k, has (numMap kind L k) (.int .i64 x) = true ↔ ∃ j, j < k ∧ ((parse (L.getD j [])).1 : Int) = kind ∧ ((parse (L.getD j [])).2 : Int) = x
  | 0 => by simp [numMap, has]
  | k + 1 => by
    have ih := has_numMap kind L x k
    unfold numMap
    by_cases h1 : ((parse (L.getD k [])).1 : Int) = kind
    · rw [if_pos h1]
      by_cases h2 : ((parse (L.getD k [])).2 : Int) = x
      · rw [h2, has_put_same (numMap_isMap kind L k) (keyLit_int _ _)]
        exact ⟨fun _ => ⟨k, by omega, h1, h2⟩, fun _ => rfl⟩
      · rw [has_put_other (by intro e; apply h2; simpa using e.symm), ih]
        constructor
        · rintro ⟨j, hj, r⟩; exact ⟨j, by omega, r⟩
        · rintro ⟨j, hj, r1, r2⟩
          by_cases e : j = k
          · subst e; exact absurd r2 h2
          · exact ⟨j, by omega, r1, r2⟩
    · rw [if_neg h1, ih]
      constructor
      · rintro ⟨j, hj, r⟩; exact ⟨j, by omega, r⟩
      · rintro ⟨j, hj, r1, r2⟩
        by_cases e : j = k
        · subst e; exact absurd r1 h1
        · exact ⟨j, by omega, r1, r2⟩
theorem has_numMap_mem (kind : Int) (L : List (List UInt8)) (x : Int) : has (numMap kind L L.length) (.int .i64 x) = true ↔ ∃ l ∈ L, ((parse l).1 : Int) = kind ∧ ((parse l).2 : Int) = x := by
  rw [has_numMap]
  constructor
  · rintro ⟨j, hj, r⟩
    have e : L.getD j [] = L[j] := by simp [List.getD, hj]
    rw [e] at r
    exact ⟨L[j], List.getElem_mem hj, r⟩
  · rintro ⟨l, hl, r⟩
    obtain ⟨j, hj, rfl⟩ := List.getElem_of_mem hl
    have e : L.getD j [] = L[j] := by simp [List.getD, hj]
    exact ⟨j, hj, by rw [e]; exact r⟩

theorem mem_intKeys {P : Program} {k : TypeId} {R : Value → Option (DataW Unit × List MemPlace)} {w : World} {b n : Nat} {D0 : DataW Unit} (hown : w.ownsMap P k R b n D0) (K : Keyed P k) (hk : P.underlying k = some (.int .i64)) :
    (intKeys D0).Nodup ∧ ∀ x, x ∈ intKeys D0 ↔ has D0 (.int .i64 x) = true := by
  obtain ⟨es, hD, hpw, _⟩ := hown.entries K
  obtain ⟨es', hD', hko⟩ := hown.keysOf
  obtain rfl : es = es' := by rw [hD] at hD'; simpa using hD'
  subst hD
  have hk : ∀ p ∈ es, ∃ x, p.1 = .int .i64 x := fun p hp => by obtain ⟨v, hv⟩ := hko p hp; obtain ⟨x, _, hx, _⟩ := Maps.keyOf_i64 hk hv; exact ⟨x, hx⟩
  constructor
  · show (es.map fun p => Go.intOf p.1).Nodup
    refine List.pairwise_map.2 (hpw.imp_of_mem fun {p q} hp' hq' hne e => hne ?_)
    obtain ⟨a, ha⟩ := hk p hp'
    obtain ⟨b, hb⟩ := hk q hq'
    rw [ha, hb] at e ⊢
    exact congrArg _ e
  · intro x
    rw [has_eq, List.any_eq_true]
    show x ∈ es.map (fun p => Go.intOf p.1) ↔ _
    rw [List.mem_map]
    constructor
    · rintro ⟨p, hp', rfl⟩
      obtain ⟨a, ha⟩ := hk p hp'
      exact ⟨p, hp', by rw [ha]; simp [Lit.sameKey, Go.intOf]⟩
    · rintro ⟨p, hp', hs⟩
      obtain ⟨a, ha⟩ := hk p hp'
      rw [ha] at hs
      exact ⟨p, hp', by rw [ha]; simpa [Lit.sameKey, Go.intOf] using hs⟩

theorem isNums_of {kind : Int} {L : List (List UInt8)} {w : World} {b n : Nat} {R : Value → Option (DataW Unit × List MemPlace)} (hk0 : 0 < kind) (hk1 : kind ≤ 4) (hown : w.ownsMap Try.prog 2 R b n (numMap kind L L.length)) {ss : List Int} (hp : ss.Perm (intKeys (numMap kind L L.length))) :
    IsNums kind L (ss.mergeSort (fun x y => decide (x ≤ y))) := by
  obtain ⟨hnd, hm⟩ := mem_intKeys hown (Maps.int_keyed Try.underlying2) Try.underlying2
  have hnd2 : (ss.mergeSort (fun x y => decide (x ≤ y))).Nodup := ((List.mergeSort_perm ss _).trans hp).nodup_iff.2 hnd
  have hs : (ss.mergeSort (fun x y => decide (x ≤ y))).Pairwise (fun a b => decide (a ≤ b) = true) := List.pairwise_mergeSort (fun a b c h1 h2 => by simp at *; omega) (fun a b => by simp; omega) ss
  refine ⟨(hs.and hnd2).imp fun {a b} ⟨h1, h2⟩ => by simp at h1; omega, fun x => ?_⟩
  rw [((List.mergeSort_perm ss _).trans hp).mem_iff, hm, has_numMap_mem]
  simp [hk0, hk1]

set_option maxHeartbeats 400000 in
theorem Numbers_any (kind : Int) (a : Option Addr) (cap : Nat) (L : List (List UInt8)) (w : World) (hL : L.length ≤ 1000000000) (hrow : RowAt w a (L.map sv)) :
    Calls Try.prog 7 #[.int .i64 kind, .slice a L.length cap] w fun e w' =>
      ∃ (v : Value) (ns : List Int), e = .returned v ∧ IsNums kind L ns ∧ w'.ownsRow w.heap.size 2 1 v ns.length (ns.map (Value.int .i64)) ∧ Below w.heap.size w w' := by
  by_cases hk : 0 < kind ∧ kind ≤ 4
  · obtain ⟨hk0, hk1⟩ := hk
    have hc := of_good kind a cap L w hk0 hk1 hL hrow
    have HK := Lib.hid (And.intro hk0 hk1); clear hk0 hk1
    go_enter Try.func7, Try.ntmps7
    go_wp2_with (go_at_call 22; refine hc.mono ?_; rintro e w' ⟨v, ss, rfl, hp, hr, hown, hnil, hb⟩)
    go_ret
    exact ⟨v, _, rfl, isNums_of HK.out.1 HK.out.2 hown hp, by rw [List.length_mergeSort]; exact ownsRow_base_le hr (by omega), hb⟩
  · have hc := of_bad kind (.slice a L.length cap) w (by omega)
    have HK := Lib.hid hk; clear hk
    go_enter Try.func7, Try.ntmps7
    go_wp2_with (go_at_call 22; refine hc.mono ?_; rintro e w' ⟨rfl, rfl⟩)
    go_ret
    exact ⟨_, [], rfl, ⟨List.Pairwise.nil, fun x => by simp [HK.out]⟩, World.ownsRow_nil _ _ _ _, (Below.refl _ _).alloc (Nat.le_refl _) _⟩

end Go.Proofs.Ytfoaoofaldiajaa
