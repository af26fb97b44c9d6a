/- Texts of this claim, one behind the other: ReD, ReE. -/
import Derived.Test.YtgckcnnnblggbaaGreatSt41
set_option linter.unusedSimpArgs false
set_option linter.unusedVariables false
/- What both disks tell of themselves, both perhaps not there. -/
namespace Go.Proofs.YtgckcnnnblggbaaGreat
open Go.RowKit Go.Maps

set_option maxRecDepth 100000 in
theorem rTexts_nil (w : World) : Calls Tryz.prog 67 #[.pointer none] w fun e w' => e = .returned (.slice none 0 0) ∧ w = w' := by
  go_enter Tryz.func67, Tryz.ntmps67
  go_wp2_with fail
  refine wp_loop_rounds 1 ?_
  rw [rounds_succ]
  go_wp2
  go_ret
  exact ⟨rfl, rfl⟩
/-- the names of a disk that may be none -/
def namesO : Option DSt → List (List UInt8)
  | none => []
  | some s => s.names.map (·.1)
def numO (f : DSt → Nat) : Option DSt → Nat
  | none => 0
  | some s => f s
def errO : Option DSt → Nat
  | none => 1
  | some _ => 0
section
variable {F G : Nat → Prop} {w : World} {v1 v2 : Option Addr} {o o1 o2 : Option DSt} {N : Nat}
theorem PairO.names1 (h : PairO F G w v1 o1 v2 o2) (hok : ∀ s, o1 = some s → s.Ok N) (hN : N < maxList) :
    Calls Tryz.prog 62 #[.pointer v1] w fun e w' => ∃ v, e = .returned (.tuple #[v, .int .i64 (errO o1 : Int)]) ∧ w'.ownsRow w.heap.size 9 1 v (namesO o1).length ((namesO o1).map sv) ∧ Below w.heap.size w w' := by
  obtain ⟨rfl, rfl, rfl, rfl⟩ | ⟨s1, s2, p, r, rfl, rfl, rfl, rfl, ht⟩ := h.cases
  · exact (Names_nil (.inl rfl)).mono fun e w' ⟨k1, k2⟩ => ⟨_, k1, World.ownsRow_nil _ _ _ _, k2⟩
  · refine (ht.has.names (hok _ rfl) hN).mono fun e w' ⟨v, k1, k2, k3⟩ => ⟨v, k1, ?_, k3⟩
    simpa [namesO] using k2
theorem PairO.texts2 (h : PairO F G w v1 o1 v2 o2) (hok : ∀ s, o2 = some s → s.Ok N) (hN : N < maxList) :
    Calls Tryz.prog 67 #[.pointer v2] w fun e w' => ∃ v, e = .returned v ∧ w'.ownsRow w.heap.size 9 1 v (namesO o2).length ((namesO o2).map sv) ∧ Below w.heap.size w w' := by
  have hmx : maxList = 4194304 := rfl
  obtain ⟨rfl, rfl, rfl, rfl⟩ | ⟨s1, s2, p, r, rfl, rfl, rfl, rfl, ht⟩ := h.cases
  · exact (rTexts_nil w).mono fun e w' ⟨k1, k2⟩ => ⟨_, k1, World.ownsRow_nil _ _ _ _, k2 ▸ Below.refl _ _⟩
  · obtain ⟨R2, h⟩ := ht.rat
    refine (rTexts_any h (hok _ rfl) (by omega)).mono fun e w' ⟨v, k1, k2, k3⟩ => ⟨v, k1, ?_, k3⟩
    simpa [namesO] using k2
theorem PairO.pending1 (h : PairO F G w v1 o1 v2 o2) : Calls Tryz.prog 17 #[.pointer v1] w fun e w' => e = .returned (.tuple #[.int .i64 (numO (fun s => s.steps.length) o1 : Int), .int .i64 (numO (fun s => s.writes.length) o1 : Int)]) ∧ Below w.heap.size w w' := by
  obtain ⟨rfl, rfl, rfl, rfl⟩ | ⟨s1, s2, p, r, rfl, rfl, rfl, rfl, ht⟩ := h.cases
  · exact Pending_nil (.inl rfl)
  · exact ht.has.pending
theorem PairO.steps1 (h : PairO F G w v1 o1 v2 o2) : Calls Tryz.prog 64 #[.pointer v1] w fun e w' => e = .returned (.int .i64 (numO (fun s => s.done) o1 : Int)) ∧ Below w.heap.size w w' := by
  obtain ⟨rfl, rfl, rfl, rfl⟩ | ⟨s1, s2, p, r, rfl, rfl, rfl, rfl, ht⟩ := h.cases
  · exact Steps_nil (.inl rfl)
  · exact ht.has.steps.mono fun e w' ⟨k1, k2⟩ => ⟨k1, k2 ▸ Below.refl _ _⟩
theorem PairO.capacity1 (h : PairO F G w v1 o1 v2 o2) : Calls Tryz.prog 15 #[.pointer v1] w fun e w' => e = .returned (.int .i64 (numO (fun s => s.room) o1 : Int)) ∧ Below w.heap.size w w' := by
  obtain ⟨rfl, rfl, rfl, rfl⟩ | ⟨s1, s2, p, r, rfl, rfl, rfl, rfl, ht⟩ := h.cases
  · exact Capacity_nil (.inl rfl)
  · exact ht.has.capacity.mono fun e w' ⟨k1, k2⟩ => ⟨k1, k2 ▸ Below.refl _ _⟩
theorem PairO.room1 (h : PairO F G w v1 o1 v2 o2) (hok : ∀ s, o1 = some s → s.Ok N) (hN : N < maxList) : Calls Tryz.prog 65 #[.pointer v1] w fun e w' => e = .returned (.int .i64 (numO (fun s => s.room - s.used) o1 : Int)) ∧ Below w.heap.size w w' := by
  obtain ⟨rfl, rfl, rfl, rfl⟩ | ⟨s1, s2, p, r, rfl, rfl, rfl, rfl, ht⟩ := h.cases
  · exact Room_nil (.inl rfl)
  · exact ht.has.room (hok _ rfl) hN
theorem PairO.left2 (h : PairO F G w v1 o1 v2 o2) (hok : ∀ s, o2 = some s → s.Ok N) (hN : N < maxList) : Calls Tryz.prog 63 #[.pointer v2] w fun e w' => e = .returned (.int .i64 (numO (fun s => s.room - s.used) o2 : Int)) ∧ Below w.heap.size w w' := by
  have hmx : maxList = 4194304 := rfl
  obtain ⟨rfl, rfl, rfl, rfl⟩ | ⟨s1, s2, p, r, rfl, rfl, rfl, rfl, ht⟩ := h.cases
  · exact (rLeft_nil w).mono fun e w' ⟨k1, k2⟩ => ⟨k1, k2 ▸ Below.refl _ _⟩
  · obtain ⟨R2, h⟩ := ht.rat
    exact rLeft_any h (hok _ rfl) (by omega)
end

end Go.Proofs.YtgckcnnnblggbaaGreat
/- spoil: files that were told are written over, and grown. -/
namespace Go.Proofs.YtgckcnnnblggbaaGreat
open Go.RowKit Go.Maps

/-- a store into a row of the call's own, of any width -/
theorem ownsRow_setS {w : World} {base : Nat} {e : TypeId} {size : Nat} {v : Value} {n g : Nat} {xs : List Value} (h : w.ownsRow base e size v n xs) (hg : v.ownBlock = some g) (k : Nat) (hk : k < n * size) (u : Value) :
    (∃ u0, w.cell? ⟨g, k, none⟩ = some u0) ∧ w.frozen? ⟨g, k, none⟩ = false ∧ (w.setCell ⟨g, k, none⟩ u).ownsRow base e size v n (xs.set k u) := by
  have hl : xs.length = n * size := h.1
  rcases h.2 with ⟨rfl, _⟩ | ⟨g', cap, cur, rfl, hb, hh, h1, h2, h3, h4⟩
  · cases hg
  · simp [Value.ownBlock] at hg
    subst hg
    have hle : n * size ≤ cap * size := Nat.mul_le_mul_right _ h1
    have hcur : k < cur.size := by omega
    refine ⟨⟨cur[k], by simp [World.cell?, hh, hcur]⟩, by simp [World.frozen?, hh], by simpa using hl, .inr ⟨g', cap, cur.setIfInBounds k u, rfl, hb, ?_, h1, h2, by simpa using h3, ?_⟩⟩
    · simp [World.setCell, Array.getElem?_modify, hh]
    · rw [← h4]; simp [Array.toList_setIfInBounds, List.take_set]

/-- files in rows of the call's own, the rows apart -/
structure SpoilOk (w : World) (lo : Nat) (v : Value) (m : Nat) (xs : List Value) : Prop where
  row : w.ownsRow lo 56 2 v m xs
  file : ∀ k, k < m → ∃ U n ys, xs[k * 2 + 1]? = some U ∧ w.ownsRow lo 5 1 U n ys ∧ n ≤ 70368744177664 ∧ ∀ b, U.ownBlock = some b → v.ownBlock ≠ some b
  apart : ∀ j k U U', j < k → k < m → xs[j * 2 + 1]? = some U → xs[k * 2 + 1]? = some U' → ∀ b, U.ownBlock = some b → U'.ownBlock ≠ some b
/-- the blocks that spoil writes -/
def SpoilB (v : Value) (m : Nat) (xs : List Value) (b : Nat) : Prop := v.ownBlock = some b ∨ ∃ j U, j < m ∧ xs[j * 2 + 1]? = some U ∧ U.ownBlock = some b
theorem SpoilOk.lt {w : World} {lo m b : Nat} {v : Value} {xs : List Value} (h : SpoilOk w lo v m xs) (hb : SpoilB v m xs b) : lo ≤ b ∧ b < w.heap.size := by
  rcases hb with hb | ⟨j, U, hj, hU, hb⟩
  · exact h.row.lt b hb
  · obtain ⟨U', n, ys, e, h1, _⟩ := h.file j hj
    rw [hU] at e; cases e
    exact h1.lt b hb
theorem SpoilOk.kept {w w' : World} {lo m : Nat} {v : Value} {xs : List Value} {O : Nat → Prop} (h : SpoilOk w lo v m xs) (hc : Chg O w w') (hO : ∀ b, SpoilB v m xs b → ¬ O b) : SpoilOk w' lo v m xs where
  row := hc.row h.row (fun k hk => hO k (.inl hk))
  file := fun k hk => by
    obtain ⟨U, n, ys, e, h1, h2, h3⟩ := h.file k hk
    exact ⟨U, n, ys, e, hc.row h1 (fun b hb => hO b (.inr ⟨k, U, hk, e, hb⟩)), h2, h3⟩
  apart := h.apart

theorem spoil_str : ("spoilt" : String).toUTF8 = ⟨#[115, 112, 111, 105, 108, 116]⟩ := by decide

set_option maxRecDepth 100000 in
set_option maxHeartbeats 4000000 in
theorem spoil_any {w : World} {lo m : Nat} {v : Value} {xs : List Value} (h : SpoilOk w lo v m xs) (hm : m ≤ maxLen) :
    Calls Tryz.prog 25 #[v] w fun e w' => e = .returned (.tuple #[]) ∧ Chg (SpoilB v m xs) w w' := by
  have hmax : maxLen = 9223372036854775807 := rfl
  obtain ⟨i0, hi, hz0, hz1, hz2⟩ := info_parts Tryz.info5
  obtain ⟨a, c, rfl, _, _, _⟩ := ownsRow_cell h.row
  have hlo : ∀ b, (Value.slice a m c).ownBlock = some b → lo ≤ b := fun b hb => (h.row.lt b hb).1
  have HX := Lib.hid h
  go_enter Tryz.func25, Tryz.ntmps25
  go_wp2
  go_loopw [2] (fun i wr => ∃ k : Nat, k ≤ m ∧ i = .int .i64 k ∧ Chg (SpoilB (.slice a m c) m xs) w wr ∧ ∃ ys, wr.ownsRow lo 56 2 (.slice a m c) m ys ∧ ∀ j, k ≤ j → j < m → ∃ U n zs, xs[j * 2 + 1]? = some U ∧ ys[j * 2 + 1]? = some U ∧ wr.ownsRow lo 5 1 U n zs ∧ n ≤ 70368744177664) (fun i _ => m - (RowKit.intOf i).toNat)
  case atStart => exact ⟨0, by omega, rfl, Chg.refl _ _, xs, h.row, fun j _ hj => by obtain ⟨U, n, ys, e, h1, h2, _⟩ := h.file j hj; exact ⟨U, n, ys, e, e, h1, h2⟩⟩
  case round =>
    clear h
    obtain ⟨k, hk, rfl, hc, ys, hr, hf⟩ := hrel
    by_cases hlt : k < m
    · obtain ⟨U, n, zs, hxU, hyU, hUo, hn⟩ := hf k (Nat.le_refl _) hlt
      have hUB : ∀ b, U.ownBlock = some b → SpoilB (.slice a m c) m xs b := fun b hb => .inr ⟨k, U, hlt, hxU, hb⟩
      have hUv : ∀ b, U.ownBlock = some b → (Value.slice a m c).ownBlock ≠ some b := fun b hb => by
        obtain ⟨U', _, _, e, _, _, h3⟩ := HX.out.file k hlt
        rw [hxU] at e; cases e
        exact h3 b hb
      have hfar : ∀ j U', k < j → j < m → xs[j * 2 + 1]? = some U' → ∀ b, U.ownBlock = some b → U'.ownBlock ≠ some b := fun j U' h1 h2 h3 => HX.out.apart k j U U' h1 h2 hxU h3
      have hfv : ∀ j U', j < m → xs[j * 2 + 1]? = some U' → ∀ b, (Value.slice a m c).ownBlock = some b → U'.ownBlock ≠ some b := fun j U' h1 h2 b hb hb' => by
        obtain ⟨U'', _, _, e, _, _, h3⟩ := HX.out.file j h1
        rw [h2] at e; cases e
        exact h3 b hb' hb
      obtain ⟨g, rfl, hcell⟩ : ∃ g, a = some ⟨g, 0, none⟩ ∧ wr.cell? ⟨g, k * 2 + 1, none⟩ = some U := by
        obtain ⟨a', c', e, _, _, hat⟩ := ownsRow_cell hr
        cases e
        exact hat _ U hyU
      have hgl := (hr.lt g rfl)
      have hgU : U.ownBlock ≠ some g := fun e => hUv g e rfl
      have hov := over_own hUo (by omega)
      have j0 : (0 : Int) ≤ (k : Int) := by omega
      have j1 : (k : Int) < (m : Int) := by omega
      have HF := Lib.hid (And.intro hf (And.intro hfar (And.intro hfv (And.intro hUB (And.intro hr (And.intro hc (And.intro hyU hUo)))))))
      clear hf hfar hfv hUB hr hc hyU hUo hxU
      go_wp2_with (first | (go_at_call 40; refine hov.mono ?_; rintro _ wa ⟨rfl, hca, za, hza⟩; have hcella := hca.cell hcell hgU; have hra := hca.row HF.out.2.2.2.2.1 (fun b hb hb' => hUv b hb' hb); have hua := hca.size) | (at_builtin; refine wpList_append_any _ rfl (.tmp 21) (.tmp 22) 36 rfl lo 5 i0 (.int .u8 0) 1 Tryz.underlying36 hi hz0 hz1 hz2 rfl _ n _ rfl (World.ownsRow.alloc hza _) (some ⟨wa.heap.size, 0, none⟩) 2 2 [.int .u8 99, .int .u8 99] rfl rfl (fun h => by cases h) (RowAt.of_row (fun j u hu => cell_new wa _ _ j u (by simpa using hu))) (by simp [Value.oneCell']) (by omega) (by omega) (by rw [World.size_alloc]; omega) ?_; intro v2 w2 hv2 hg2; obtain ⟨a2, k2, rfl, _, _, _⟩ := ownsRow_cell hv2; have hc2 : Chg (fun b => U.ownBlock = some b) wa w2 := (Chg.alloc _ wa _).trans (Chg.of_grown hg2 (fun b e _ => e)) (fun _ h _ => h); have hr2 := hc2.row hra (fun b hb hb' => hUv b hb' hb); obtain ⟨⟨u0, q0⟩, f0, hset⟩ := ownsRow_setS hr2 (g := g) rfl (k * 2 + 1) (by omega) (.slice a2 (n + 2) k2); obtain ⟨⟨u1, q1⟩, f1, hset1⟩ := ownsRow_setS hset (g := g) rfl (k * 2) (by omega) (.string ⟨#[115, 112, 111, 105, 108, 116]⟩)))
      obtain ⟨hf, hfar, hfv, hUB, hr, hc, hyU, hUo⟩ := HF.out
      have hcT : Chg (SpoilB (.slice (some ⟨g, 0, none⟩) m c) m xs) w ((w2.setCell ⟨g, k * 2 + 1, none⟩ (.slice a2 (n + 2) k2)).setCell ⟨g, k * 2, none⟩ (.string ⟨#[115, 112, 111, 105, 108, 116]⟩)) :=
        (((hc.trans (hca.trans hc2 (fun _ h _ => h)) (fun b hb _ => hUB b hb)).trans (Chg.set (O := fun b => b = g) _ rfl) (fun b hb _ => by subst hb; exact .inl rfl))).trans (Chg.set (O := fun b => b = g) _ rfl) (fun b hb _ => by subst hb; exact .inl rfl)
      have HREL := Lib.hid (And.intro hcT (And.intro hset1 (fun j (h1 : k + 1 ≤ j) (h2 : j < m) => (by
        obtain ⟨U', n', zs', e1, e2, e3, e4⟩ := hf j (by omega) h2
        have hUj := hfar j U' (by omega) h2 e1
        have hvj := hfv j U' h2 e1 g rfl
        exact ⟨U', n', zs', e1, by rw [List.getElem?_set_ne (by omega), List.getElem?_set_ne (by omega)]; exact e2, ownsRow_setCell_other (a := ⟨g, k * 2, none⟩) (ownsRow_setCell_other (a := ⟨g, k * 2 + 1, none⟩) (hc2.row (hca.row e3 (fun b h3 h4 => hUj b h4 h3)) (fun b h3 h4 => hUj b h4 h3)) hvj _) hvj _, e4⟩ : ∃ U n' zs, xs[j * 2 + 1]? = some U ∧ ((ys.set (k * 2 + 1) (.slice a2 (n + 2) k2)).set (k * 2) (.string ⟨#[115, 112, 111, 105, 108, 116]⟩))[j * 2 + 1]? = some U ∧ ((w2.setCell ⟨g, k * 2 + 1, none⟩ (.slice a2 (n + 2) k2)).setCell ⟨g, k * 2, none⟩ (.string ⟨#[115, 112, 111, 105, 108, 116]⟩)).ownsRow lo 5 1 U n' zs ∧ n' ≤ 70368744177664))))
      go_roundw
      case rel => exact ⟨k + 1, by omega, by go_num, HREL.out.1, _, HREL.out.2.1, HREL.out.2.2⟩
      case measure => simp [RowKit.intOf]; omega
    · obtain rfl : k = m := by omega
      have j1 : ¬ (k : Int) < (k : Int) := by omega
      go_wp2
      exact bodyPost_end (results_none rfl _ _ _) rfl ⟨rfl, hc⟩

theorem flat_two : ∀ (cs : List (List Value)) (i : Nat) (hi : i < cs.length), (∀ c ∈ cs, c.length = 2) → ∀ j, j < 2 → cs.flatten[i * 2 + j]? = (cs[i])[j]? := by
  intro cs
  induction cs with
  | nil => intro i hi; simp at hi
  | cons c r ih =>
    intro i hi hl j hj
    have hc2 := hl c List.mem_cons_self
    cases i with
    | zero => rw [List.flatten_cons, List.getElem?_append_left (by omega)]; simp
    | succ i =>
      rw [List.flatten_cons, List.getElem?_append_right (by omega)]
      have := ih i (by simpa using hi) (fun c hc => hl c (List.mem_cons_of_mem _ hc)) j hj
      rw [show (i + 1) * 2 + j - c.length = i * 2 + j from by omega]
      simpa using this
theorem FilesAt.spoilOk {w : World} {lo bo : Nat} {v : Value} {cs : List (List Value)} {L : List (List UInt8 × List UInt8)} (h : FilesAt w lo bo v cs L) (hL : ∀ d ∈ L, d.2.length ≤ maxFile) : SpoilOk w lo v L.length cs.flatten := by
  have hmf : maxFile = 1099511627776 := rfl
  have hone : ∀ (i : Nat) (hi : i < cs.length), ∃ d U, d ∈ L ∧ cs[i] = [sv d.1, U] ∧ BytesIn w (fun b => lo ≤ b ∧ b < w.heap.size ∧ v.ownBlock ≠ some b ∧ b ≠ bo) U d.2 := fun i hi => by
    obtain ⟨U, e, hU⟩ := h.file i cs[i] (L[i]'(by rw [← h.count]; exact hi)) (by simp) (by simp)
    exact ⟨_, U, List.getElem_mem _, e, hU⟩
  have hl2 : ∀ c ∈ cs, c.length = 2 := fun c hcm => by
    obtain ⟨k, hk, rfl⟩ := List.getElem_of_mem hcm
    obtain ⟨d, U, _, e, _⟩ := hone k hk
    rw [e]; rfl
  have hat : ∀ (i : Nat) (hi : i < cs.length) (d : List UInt8 × List UInt8) (U : Value), cs[i] = [sv d.1, U] → cs.flatten[i * 2 + 1]? = some U := fun i hi d U e => by
    rw [flat_two cs i hi hl2 1 (by omega), e]; rfl
  refine ⟨h.row, fun k hk => ?_, fun j k U U' hjk hk hU hU' b hb hb' => ?_⟩
  · have hk' : k < cs.length := by rw [h.count]; exact hk
    obtain ⟨d, U, hd, e, hU⟩ := hone k hk'
    have hbl := fun b (hb : U.ownBlock = some b) => hU.block hb
    obtain ⟨a, c, rfl, h1, h2, h3, h4, h5, h6⟩ := hU
    refine ⟨_, d.2.length, d.2.map bv, hat k hk' d _ e, ?_, by have := hL d hd; omega, fun b hb => (hbl b hb).2.2.1⟩
    rcases h6.2 with ⟨e1, e2⟩ | ⟨g, cap, cur, e1, _, r⟩
    · exact ⟨h6.1, .inl ⟨e1, e2⟩⟩
    · exact ⟨h6.1, .inr ⟨g, cap, cur, e1, (hbl g (by rw [e1]; rfl)).1, r⟩⟩
  · have hk' : k < cs.length := by rw [h.count]; exact hk
    have hj' : j < cs.length := by omega
    obtain ⟨d, V, _, e, _⟩ := hone j hj'
    obtain ⟨d', V', _, e', _⟩ := hone k hk'
    rw [hat j hj' d V e] at hU; cases hU
    rw [hat k hk' d' V' e'] at hU'; cases hU'
    have := List.pairwise_iff_getElem.1 h.apart j k hj' hk' hjk b
    rw [e, e'] at this
    exact this hb hb'
theorem FilesAt.kept {w w' : World} {lo bo : Nat} {v : Value} {cs : List (List Value)} {L : List (List UInt8 × List UInt8)} {O : Nat → Prop} (h : FilesAt w lo bo v cs L) (hc : Chg O w w') (hO : ∀ b, lo ≤ b → b < w.heap.size → ¬ O b) : FilesAt w' lo bo v cs L where
  row := hc.row h.row (fun k hk => hO k (h.row.lt k hk).1 (h.row.lt k hk).2)
  count := h.count
  file := fun i c d hi hd => by
    obtain ⟨U, e, hU⟩ := h.file i c d hi hd
    exact ⟨U, e, hU.kept hc (fun b hb => hO b hb.1 hb.2.1) (fun b hb => ⟨hb.1, Nat.lt_of_lt_of_le hb.2.1 hc.size, hb.2.2⟩)⟩
  apart := h.apart
theorem allO_bytes {o : Option DSt} {N : Nat} (hok : ∀ s, o = some s → s.Ok N) : ∀ d ∈ allO o, d.2.length ≤ maxFile := by
  intro d hd
  cases o with
  | none => simp [allO] at hd
  | some s =>
    simp only [allO, DSt.all, List.mem_map] at hd
    obtain ⟨p, _, rfl⟩ := hd
    exact (hok s rfl).stands_le p.2

end Go.Proofs.YtgckcnnnblggbaaGreat
