/- Walks of the names layer: the reference's Numbers and Name. -/
import Derived.Test.YtfoaoofaldiajaaNmL
namespace Go.Proofs.Ytfoaoofaldiajaa
open Go.RowKit Go.Maps

def IsNumsK (kind : Int) (L : List (List UInt8)) (k : Nat) (ns : List Int) : Prop :=
  ns.Pairwise (· < ·) ∧ ∀ x, x ∈ ns ↔ ((0 < kind) ∧ ∃ l ∈ L.take k, ((parse l).1 : Int) = kind ∧ ((parse l).2 : Int) = x)
theorem IsNumsK.all {kind : Int} {L : List (List UInt8)} {ns : List Int} (h : IsNumsK kind L L.length ns) : IsNums kind L ns := by
  refine ⟨h.1, fun x => ?_⟩
  rw [h.2 x, List.take_length]
  constructor
  · rintro ⟨h0, l, hl, h1, h2⟩; have := parse_kind l; exact ⟨⟨h0, by omega⟩, l, hl, h1, h2⟩
  · rintro ⟨⟨h0, _⟩, r⟩; exact ⟨h0, r⟩
theorem IsNumsK.skip {kind : Int} {L : List (List UInt8)} {k : Nat} {ns : List Int} (h : IsNumsK kind L k ns) (hk : k < L.length) (hne : ((parse L[k]).1 : Int) ≠ kind) : IsNumsK kind L (k + 1) ns := by
  refine ⟨h.1, fun x => ?_⟩
  rw [h.2 x, List.take_succ_eq_append_getElem hk]
  simp only [List.mem_append, List.mem_singleton]
  constructor
  · rintro ⟨h0, l, hl, r⟩; exact ⟨h0, l, .inl hl, r⟩
  · rintro ⟨h0, l, hl | rfl, r⟩
    · exact ⟨h0, l, hl, r⟩
    · exact absurd r.1 hne
theorem IsNumsK.again {kind : Int} {L : List (List UInt8)} {k : Nat} {ns : List Int} (h : IsNumsK kind L k ns) (hk : k < L.length) (x : Int) (hx : ((parse L[k]).2 : Int) = x) (hin : x ∈ ns) : IsNumsK kind L (k + 1) ns := by
  refine ⟨h.1, fun y => ?_⟩
  rw [h.2 y, List.take_succ_eq_append_getElem hk]
  simp only [List.mem_append, List.mem_singleton]
  constructor
  · rintro ⟨h0, l, hl, r⟩; exact ⟨h0, l, .inl hl, r⟩
  · rintro ⟨h0, l, hl | rfl, r⟩
    · exact ⟨h0, l, hl, r⟩
    · have := (h.2 x).1 hin
      rw [← r.2, hx]; exact this
theorem IsNumsK.insert {kind : Int} {L : List (List UInt8)} {k : Nat} {ns : List Int} (h : IsNumsK kind L k ns) (hk : k < L.length) (h0 : 0 < kind) (x : Int) (hkind : ((parse L[k]).1 : Int) = kind) (hx : ((parse L[k]).2 : Int) = x) (m : Nat) (hm : m ≤ ns.length)
    (hlo : ∀ i (hi : i < ns.length), i < m → ns[i] < x) (hhi : ∀ (hi : m < ns.length), x < ns[m]) : IsNumsK kind L (k + 1) (ns.take m ++ [x] ++ ns.drop m) := by
  have hlo' : ∀ y ∈ ns.take m, y < x := by
    intro y hy
    obtain ⟨i, hi, rfl⟩ := List.getElem_of_mem hy
    simp at hi
    rw [List.getElem_take]; exact hlo i (by omega) (by omega)
  have hhi' : ∀ y ∈ ns.drop m, x < y := by
    intro y hy
    by_cases hml : m < ns.length
    · rw [List.drop_eq_getElem_cons hml] at hy
      have hp := h.1
      rw [← List.take_append_drop m ns, List.pairwise_append, List.drop_eq_getElem_cons hml, List.pairwise_cons] at hp
      rcases List.mem_cons.1 hy with rfl | hy
      · exact hhi hml
      · have := hp.2.1.1 y hy; have := hhi hml; omega
    · rw [List.drop_of_length_le (by omega)] at hy; cases hy
  have hp := h.1
  rw [← List.take_append_drop m ns, List.pairwise_append] at hp
  refine ⟨?_, fun y => ?_⟩
  · rw [List.append_assoc, List.pairwise_append]
    refine ⟨hp.1, ?_, ?_⟩
    · rw [List.singleton_append, List.pairwise_cons]; exact ⟨hhi', hp.2.1⟩
    · intro a ha b hb
      rcases List.mem_append.1 hb with hb | hb
      · simp at hb; subst hb; exact hlo' a ha
      · exact hp.2.2 a ha b hb
  · have hmem : y ∈ ns.take m ++ [x] ++ ns.drop m ↔ y ∈ ns ∨ y = x := by
      conv => rhs; rw [← List.take_append_drop m ns]
      simp only [List.mem_append, List.mem_singleton]
      grind
    rw [hmem, h.2 y, List.take_succ_eq_append_getElem hk]
    simp only [List.mem_append, List.mem_singleton]
    constructor
    · rintro (⟨_, l, hl, r⟩ | rfl)
      · exact ⟨h0, l, .inl hl, r⟩
      · exact ⟨h0, L[k], .inr rfl, hkind, hx⟩
    · rintro ⟨_, l, hl | rfl, r⟩
      · exact .inl ⟨h0, l, hl, r⟩
      · exact .inr (by rw [← r.2, hx])

theorem Try.info2 : (Try.prog.info? 2).map (fun i => (i.zero, i.size, i.bytes)) = some (some (.int .i64 0), 1, 8) := by kernel_rfl

set_option maxRecDepth 100000 in
set_option maxHeartbeats 2000000 in
theorem rNumbers_any (kind : Int) (a : Option Addr) (cap : Nat) (L : List (List UInt8)) (w : World) (hL : L.length ≤ 1000000) (hrow : RowAt w a (L.map sv)) :
    Calls Try.prog 9 #[.int .i64 kind, .slice a L.length cap] w fun e w' =>
      ∃ (v : Value) (ns : List Int), e = .returned v ∧ IsNums kind L ns ∧ w'.ownsRow w.heap.size 2 1 v ns.length (ns.map (Value.int .i64)) ∧ Below w.heap.size w w' := by
  obtain ⟨i0, hi, hz0, hz1, hz2⟩ := info_parts Try.info2
  by_cases hk0 : 0 < kind
  · have q1 : decide (0 < kind) = true := by simpa using hk0
    go_enter Try.func9, Try.ntmps9
    go_wp2
    go_loopw [5, 6] (fun v i wr => ∃ (k : Nat) (ns : List Int), k ≤ L.length ∧ i = .int .i64 k ∧ ns.length ≤ k ∧ IsNumsK kind L k ns ∧ wr.ownsRow w.heap.size 2 1 v ns.length (ns.map (Value.int .i64)) ∧ Below w.heap.size w wr) (fun _ i _ => L.length - (RowKit.intOf i).toNat)
    case atStart => exact ⟨0, [], by omega, rfl, by simp, ⟨List.Pairwise.nil, fun x => by simp⟩, World.ownsRow_nil _ _ _ _, Below.refl _ _⟩
    case round =>
      obtain ⟨k, ns, hk, rfl, hnk, hN, hown, hb⟩ := hrel
      have hsz := hb.size
      obtain ⟨sa, sc, rfl, hrv, hlv⟩ := RowAt.of_owns hown
      by_cases hlt : k < L.length
      · obtain ⟨b, off, rfl, hc⟩ := RowAt.at_ (hrow.below hb) (k := k) (by simpa using hlt)
        simp only [List.getElem_map, sv] at hc
        have hP := rParse_any L[k]
        have hpn := parse_num L[k]
        have hskip := hN.skip hlt
        have hagain := hN.again hlt
        have hins := hN.insert hlt hk0
        generalize L[k] = l at hc hP hpn hskip hagain hins
        generalize parse l = p at hP hpn hskip hagain hins
        obtain ⟨pk, x⟩ := p
        simp only [] at hP hpn hskip hagain hins
        have HN := Lib.hid hN; clear hN
        have HI := Lib.hid hins; clear hins
        have HA := Lib.hid hagain; clear hagain
        have HS := Lib.hid hskip; clear hskip
        by_cases heq : (pk : Int) = kind
        · have hbq : ((pk : Int) != kind) = false := by simpa using heq
          have HE := Lib.hid heq; clear heq
          go_wp2_with (go_at_call 18; refine (hP _).mono ?_; rintro e w1 ⟨rfl, hb1⟩)
          have hown1 := hown.kept (row := none) (Below.grownBy hb1) (by cases hv : Value.ownBlock _ <;> simp)
          have hrv1 := hrv.below hb1
          have hscn : sa = none → sc = 0 := ownsRow_cap0 hown
          have hnsc : ns.length ≤ sc := ownsRow_len_cap hown
          have hs1 := hb1.size
          have hb1' := hb.trans (hb1.mono hsz)
          clear hb hb1 hown hrv hc hP
          go_loop [9] (fun i => ∃ m : Nat, m ≤ ns.length ∧ i = .int .i64 m ∧ Hid (∀ i (hi : i < ns.length), i < m → ns[i] < (x : Int))) (fun i => ns.length - (RowKit.intOf i).toNat)
          case atStart => exact ⟨0, by omega, rfl, fun i hi h => by omega⟩
          case round =>
            obtain ⟨m, hm, rfl, HM⟩ := hrel
            by_cases hmlt : m < ns.length
            · obtain ⟨gb, go, rfl, hcm⟩ := hrv1.at_ (k := m) (by simpa using hmlt)
              simp only [List.getElem_map] at hcm
              by_cases hless : ns[m] < (x : Int)
              · have HM2 : Hid (∀ i (hi : i < ns.length), i < m + 1 → ns[i] < (x : Int)) := fun i hi h => by
                  by_cases e : i = m
                  · subst e; exact hless
                  · exact HM.out i hi (by omega)
                generalize ns[m] = y at hcm hless
                go_wp2
                go_round
                case rel => exact ⟨m + 1, by omega, by go_num, HM2⟩
                case measure => simp [RowKit.intOf]; omega
              · have hxm : ns[m] = (x : Int) → (x : Int) ∈ ns := fun e => e ▸ List.getElem_mem hmlt
                have hgt : ns[m] ≠ (x : Int) → (x : Int) < ns[m] := fun e => by omega
                have HX := Lib.hid hxm; clear hxm
                have HG := Lib.hid hgt; clear hgt
                by_cases heqx : ns[m] = (x : Int)
                · have hin := HX.out heqx
                  have hbe : ((x : Int) == (x : Int)) = true := by simp
                  rw [heqx] at hcm
                  have HIN := HA.out x rfl hin
                  clear heqx hin
                  go_wp2
                  go_roundw
                  case rel => exact ⟨k + 1, ns, by omega, by go_num, by omega, HIN, hown1, hb1'⟩
                  case measure => simp [RowKit.intOf]; omega
                · have hhi := HG.out heqx
                  have hbe : (ns[m] == (x : Int)) = false := by simpa using heqx
                  generalize hym : ns[m] = y at hcm hless hhi hbe
                  have HY := Lib.hid hym; clear hym heqx
                  have HHI : Hid (∀ (hi : m < ns.length), (x : Int) < ns[m]) := fun _ => by rw [HY.out]; exact hhi
                  clear hhi
                  have hl1 := run_slice_hi (P := Try.prog) 24 2 Try.underlying24 Try.sizeOf2 (some (⟨gb, go, none⟩ : Addr)) ns.length sc m (by omega)
                  have hl2 := run_slice_lo (P := Try.prog) 24 2 Try.underlying24 Try.sizeOf2 (some (⟨gb, go, none⟩ : Addr)) ns.length sc m (by omega)
                  have hnl : (some (⟨gb, go, none⟩ : Addr)) = none → sc = 0 := hscn
                  go_wp2_with (at_builtin; go_loud (refine wpList_append_any _ rfl (.tmp 58) (.tmp 61) 24 rfl w1.heap.size 2 i0 (.int .i64 0) 8 Try.underlying24 hi hz0 hz1 hz2 rfl _ 0 [] rfl (World.ownsRow_nil _ _ _ _) (some (⟨gb, go, none⟩ : Addr)) m sc ((ns.take m).map (Value.int .i64)) rfl (by rw [List.length_map, List.length_take]; omega) hnl (by rw [List.map_take]; exact hrv1.take _) (by intro u hu; obtain ⟨_, _, rfl⟩ := List.mem_map.1 hu; rfl) (by unfold maxLen; omega) (by omega) (by omega) ?_))
                  intro v3 w3 hown3 hg3
                  have hown3 : w3.ownsRow w1.heap.size 2 1 v3 m ((ns.take m).map (Value.int .i64)) := by simpa using hown3
                  have hb3 : Below w1.heap.size w1 w3 := (Below.refl _ _).grown hg3 (Nat.le_refl _) (by intro k e; cases e)
                  have hs3 := hb3.size
                  obtain ⟨s3, c3, rfl, _, _⟩ := RowAt.of_owns hown3
                  clear hg3
                  go_wp2_with (at_builtin; go_loud (refine wpList_append_own _ rfl (.tmp 63) (.tmp 65) 24 rfl w1.heap.size 2 i0 (.int .i64 0) 1 8 Try.underlying24 hi hz0 hz1 hz2 rfl (by decide) _ m _ rfl (hown3.alloc _) ⟨w3.heap.size, 0, none⟩ 1 1 [.int .i64 x] rfl rfl (cell_one_new _ _ _) (by simp [Value.oneCell']) (by unfold maxLen; omega) (by omega) (by rw [World.size_alloc]; omega) ?_))
                  intro v4 w4 hown4 hg4 _
                  have hb4 : Below w1.heap.size w1 w4 := (hb3.alloc hs3 _).grown hg4 (by rw [World.size_alloc]; omega) (fun k e => (hown3.lt k e).1)
                  have hs4 := hb4.size
                  obtain ⟨s4, c4, rfl, _, _⟩ := RowAt.of_owns hown4
                  clear hg4
                  have hrd := ((hrv1.below hb4).drop sc m (by rw [List.length_map]; omega))
                  rw [← List.map_drop] at hrd
                  go_wp2_with (at_builtin; go_loud (refine wpList_append_any _ rfl (.tmp 67) (.tmp 70) 24 rfl w1.heap.size 2 i0 (.int .i64 0) 8 Try.underlying24 hi hz0 hz1 hz2 rfl _ (m + 1) _ rfl hown4 (subAt (some (⟨gb, go, none⟩ : Addr)) sc m) (ns.length - m) (sc - m) ((ns.drop m).map (Value.int .i64)) rfl (by rw [List.length_map, List.length_drop]) (by intro e; have := hnl (subAt_none.1 e); omega) hrd (by intro u hu; obtain ⟨_, _, rfl⟩ := List.mem_map.1 hu; rfl) (by unfold maxLen; omega) (by omega) (by omega) ?_))
                  intro v5 w5 hown5 hg5
                  have hb5 : Below w1.heap.size w1 w5 := hb4.grown hg5 (by omega) (fun k e => (hown4.lt k e).1)
                  have hlen5 : (ns.take m ++ [(x : Int)] ++ ns.drop m).length = m + 1 + (ns.length - m) := by simp; omega
                  have hown6 : w5.ownsRow w.heap.size 2 1 v5 (ns.take m ++ [(x : Int)] ++ ns.drop m).length ((ns.take m ++ [(x : Int)] ++ ns.drop m).map (Value.int .i64)) := by
                    rw [hlen5]; have h6 := ownsRow_base_le (base' := w.heap.size) hown5 (by omega); simpa using h6
                  have hN2 : IsNumsK kind L (k + 1) (ns.take m ++ [(x : Int)] ++ ns.drop m) := HI.out x HE.out rfl m hm HM.out HHI.out
                  clear hl1 hl2 hown5
                  generalize ns.take m ++ [(x : Int)] ++ ns.drop m = ns2 at *
                  obtain ⟨s5, c5, rfl, _, _⟩ := RowAt.of_owns hown6
                  have H5 := Lib.hid hlen5; clear hlen5
                  go_wp2
                  go_roundw
                  case rel => exact ⟨k + 1, ns2, by omega, by go_num, by have := H5.out; omega, hN2, hown6, hb1'.trans (hb5.mono (by omega))⟩
                  case measure => simp [RowKit.intOf]; omega
            · have HHI : Hid (∀ (hi : m < ns.length), (x : Int) < ns[m]) := fun h => absurd h hmlt
              have hl1 := run_slice_hi (P := Try.prog) 24 2 Try.underlying24 Try.sizeOf2 sa ns.length sc m (by omega)
              have hl2 := run_slice_lo (P := Try.prog) 24 2 Try.underlying24 Try.sizeOf2 sa ns.length sc m (by omega)
              have hnl : sa = none → sc = 0 := hscn
              go_wp2_with (at_builtin; go_loud (refine wpList_append_any _ rfl (.tmp 58) (.tmp 61) 24 rfl w1.heap.size 2 i0 (.int .i64 0) 8 Try.underlying24 hi hz0 hz1 hz2 rfl _ 0 [] rfl (World.ownsRow_nil _ _ _ _) sa m sc ((ns.take m).map (Value.int .i64)) rfl (by rw [List.length_map, List.length_take]; omega) hnl (by rw [List.map_take]; exact hrv1.take _) (by intro u hu; obtain ⟨_, _, rfl⟩ := List.mem_map.1 hu; rfl) (by unfold maxLen; omega) (by omega) (by omega) ?_))
              intro v3 w3 hown3 hg3
              have hown3 : w3.ownsRow w1.heap.size 2 1 v3 m ((ns.take m).map (Value.int .i64)) := by simpa using hown3
              have hb3 : Below w1.heap.size w1 w3 := (Below.refl _ _).grown hg3 (Nat.le_refl _) (by intro k e; cases e)
              have hs3 := hb3.size
              obtain ⟨s3, c3, rfl, _, _⟩ := RowAt.of_owns hown3
              clear hg3
              go_wp2_with (at_builtin; go_loud (refine wpList_append_own _ rfl (.tmp 63) (.tmp 65) 24 rfl w1.heap.size 2 i0 (.int .i64 0) 1 8 Try.underlying24 hi hz0 hz1 hz2 rfl (by decide) _ m _ rfl (hown3.alloc _) ⟨w3.heap.size, 0, none⟩ 1 1 [.int .i64 x] rfl rfl (cell_one_new _ _ _) (by simp [Value.oneCell']) (by unfold maxLen; omega) (by omega) (by rw [World.size_alloc]; omega) ?_))
              intro v4 w4 hown4 hg4 _
              have hb4 : Below w1.heap.size w1 w4 := (hb3.alloc hs3 _).grown hg4 (by rw [World.size_alloc]; omega) (fun k e => (hown3.lt k e).1)
              have hs4 := hb4.size
              obtain ⟨s4, c4, rfl, _, _⟩ := RowAt.of_owns hown4
              clear hg4
              have hrd := ((hrv1.below hb4).drop sc m (by rw [List.length_map]; omega))
              rw [← List.map_drop] at hrd
              go_wp2_with (at_builtin; go_loud (refine wpList_append_any _ rfl (.tmp 67) (.tmp 70) 24 rfl w1.heap.size 2 i0 (.int .i64 0) 8 Try.underlying24 hi hz0 hz1 hz2 rfl _ (m + 1) _ rfl hown4 (subAt sa sc m) (ns.length - m) (sc - m) ((ns.drop m).map (Value.int .i64)) rfl (by rw [List.length_map, List.length_drop]) (by intro e; have := hnl (subAt_none.1 e); omega) hrd (by intro u hu; obtain ⟨_, _, rfl⟩ := List.mem_map.1 hu; rfl) (by unfold maxLen; omega) (by omega) (by omega) ?_))
              intro v5 w5 hown5 hg5
              have hb5 : Below w1.heap.size w1 w5 := hb4.grown hg5 (by omega) (fun k e => (hown4.lt k e).1)
              have hlen5 : (ns.take m ++ [(x : Int)] ++ ns.drop m).length = m + 1 + (ns.length - m) := by simp; omega
              have hown6 : w5.ownsRow w.heap.size 2 1 v5 (ns.take m ++ [(x : Int)] ++ ns.drop m).length ((ns.take m ++ [(x : Int)] ++ ns.drop m).map (Value.int .i64)) := by
                rw [hlen5]; have h6 := ownsRow_base_le (base' := w.heap.size) hown5 (by omega); simpa using h6
              have hN2 : IsNumsK kind L (k + 1) (ns.take m ++ [(x : Int)] ++ ns.drop m) := HI.out x HE.out rfl m hm HM.out HHI.out
              clear hl1 hl2 hown5
              generalize ns.take m ++ [(x : Int)] ++ ns.drop m = ns2 at *
              obtain ⟨s5, c5, rfl, _, _⟩ := RowAt.of_owns hown6
              have H5 := Lib.hid hlen5; clear hlen5
              go_wp2
              go_roundw
              case rel => exact ⟨k + 1, ns2, by omega, by go_num, by have := H5.out; omega, hN2, hown6, hb1'.trans (hb5.mono (by omega))⟩
              case measure => simp [RowKit.intOf]; omega
        · have hbq : ((pk : Int) != kind) = true := by simpa using heq
          have HE := Lib.hid heq; clear heq
          go_wp2_with (go_at_call 18; refine (hP _).mono ?_; rintro e w1 ⟨rfl, hb1⟩)
          go_roundw
          case rel => exact ⟨k + 1, ns, by omega, by go_num, by omega, HS.out HE.out, hown.kept (row := none) (Below.grownBy hb1) (by cases hv : Value.ownBlock _ <;> simp), hb.trans (hb1.mono hsz)⟩
          case measure => simp [RowKit.intOf]; omega
      · obtain rfl : k = L.length := by omega
        go_wp2
        go_ret
        exact ⟨_, ns, rfl, hN.all, hown, hb⟩
  · have q1 : decide (0 < kind) = false := by simpa using hk0
    go_enter Try.func9, Try.ntmps9
    go_wp2
    refine wp_loop_rounds 1 ?_
    rw [rounds_succ]
    go_wp2
    all_goals
      go_ret
      exact ⟨_, [], rfl, ⟨List.Pairwise.nil, fun x => by simp; omega⟩, World.ownsRow_nil _ _ _ _, Below.refl _ _⟩

end Go.Proofs.Ytfoaoofaldiajaa
