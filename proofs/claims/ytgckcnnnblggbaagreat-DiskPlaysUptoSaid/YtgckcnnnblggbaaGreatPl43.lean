/- Texts of this claim, one behind the other: RfD. -/
import Derived.Test.YtgckcnnnblggbaaGreatSt27
import Derived.Test.YtgckcnnnblggbaaGreatSt38
import Derived.Test.YtgckcnnnblggbaaGreatSt42
set_option linter.unusedSimpArgs false
set_option linter.unusedVariables false
/- lentFiles, leftFiles: files that are handed in, in rows of the law's own. (printed by gen/lentf.py) -/
namespace Go.Proofs.YtgckcnnnblggbaaGreat
open Go.RowKit Go.Maps

theorem Tryz.sizeOf56' : ∀ w, (sizeOf 56).run Tryz.prog w = Result.ok 2 w := fun _ => by kernel_rfl
/-- a lent file's two cells; its bytes lie in a block -/
def encL (p : (List UInt8 × List UInt8) × Nat × Nat) : List Value := [sv p.1.1, .slice (some ⟨p.2.1, 0, none⟩) p.1.2.length p.2.2]
theorem encL_two (y : (List UInt8 × List UInt8) × Nat × Nat) : (encL y).length = 2 := rfl
def room : List UInt8 := [114, 111, 111, 109]
/-- the bytes of lent files: each with a mark behind them, in blocks of their own -/
structure LentIn (w : World) (lo : Nat) (v : Value) (L : List (List UInt8 × List UInt8)) (bs : List (Nat × Nat)) : Prop where
  count : bs.length = L.length
  file : ∀ (i : Nat) d b, L[i]? = some d → bs[i]? = some b → Lent w lo b.1 b.2 d.2 ∧ v.ownBlock ≠ some b.1
  apart : (bs.map (·.1)).Nodup
theorem Lent.lt {w : World} {lo g c : Nat} {l : List UInt8} (h : Lent w lo g c l) : lo ≤ g ∧ g < w.heap.size := by unfold Lent at h; exact h.lt g rfl
theorem LentIn.mem {w : World} {lo : Nat} {v : Value} {L : List (List UInt8 × List UInt8)} {bs : List (Nat × Nat)} (h : LentIn w lo v L bs) {b : Nat × Nat} (hb : b ∈ bs) : lo ≤ b.1 ∧ b.1 < w.heap.size := by
  obtain ⟨i, hi, rfl⟩ := List.getElem_of_mem hb
  have hc := h.count
  exact (h.file i (L[i]'(by omega)) bs[i] (by simp) (by simp)).1.lt
theorem LentIn.ne {w : World} {lo : Nat} {v : Value} {L : List (List UInt8 × List UInt8)} {bs : List (Nat × Nat)} (h : LentIn w lo v L bs) {b : Nat × Nat} (hb : b ∈ bs) : v.ownBlock ≠ some b.1 := by
  obtain ⟨i, hi, rfl⟩ := List.getElem_of_mem hb
  have hc := h.count
  exact (h.file i (L[i]'(by omega)) bs[i] (List.getElem?_eq_getElem _) (List.getElem?_eq_getElem _)).2
theorem LentIn.kept {w w' : World} {lo : Nat} {v v' : Value} {L : List (List UInt8 × List UInt8)} {bs : List (Nat × Nat)} (h : LentIn w lo v L bs) {O : Nat → Prop} (hc : Chg O w w') (hO : ∀ b ∈ bs, ¬ O b.1) (hv : ∀ b ∈ bs, v'.ownBlock ≠ some b.1) : LentIn w' lo v' L bs :=
  ⟨h.count, fun i d b hd hb => by
    have hm := List.mem_of_getElem? hb
    have h1 := (h.file i d b hd hb).1
    refine ⟨?_, hv b hm⟩
    unfold Lent at h1 ⊢
    exact hc.row h1 (fun k e => by cases e; exact hO b hm), h.apart⟩
theorem LentIn.push {w : World} {lo : Nat} {v : Value} {L : List (List UInt8 × List UInt8)} {bs : List (Nat × Nat)} (h : LentIn w lo v L bs) {d : List UInt8 × List UInt8} {b : Nat × Nat} (hl : Lent w lo b.1 b.2 d.2) (hv : v.ownBlock ≠ some b.1) (hn : ∀ c ∈ bs, c.1 ≠ b.1) : LentIn w lo v (L ++ [d]) (bs ++ [b]) := by
  have hcnt := h.count
  refine ⟨by simp [hcnt], fun i d' b' hd hb => ?_, ?_⟩
  · by_cases hi : i < L.length
    · rw [List.getElem?_append_left hi] at hd
      rw [List.getElem?_append_left (by omega)] at hb
      exact h.file i d' b' hd hb
    · have hi2 := (List.getElem?_eq_some_iff.1 hd).1
      simp at hi2
      obtain rfl : i = L.length := by omega
      simp at hd
      rw [← hcnt] at hb
      simp at hb
      subst hd; subst hb
      exact ⟨hl, hv⟩
  · rw [List.map_append, List.nodup_append]
    refine ⟨h.apart, by simp, fun x hx y hy e => ?_⟩
    simp at hy
    subst hy
    obtain ⟨c, hc, rfl⟩ := List.mem_map.1 hx
    exact hn c hc e
/-- lent files: the row, and "room" behind it -/
structure LentFiles (w : World) (lo g c : Nat) (L : List (List UInt8 × List UInt8)) (bs : List (Nat × Nat)) : Prop where
  row : w.ownsRow lo 56 2 (.slice (some ⟨g, 0, none⟩) (L.length + 1) c) (L.length + 1) (((L.zip bs).map encL).flatten ++ [sv room, .slice none 0 0])
  lent : LentIn w lo (.slice (some ⟨g, 0, none⟩) (L.length + 1) c) L bs
/-- append, and where the row lies then -/
theorem wpList_append_own_at {P : Program} (w : World) {ops : Array Oper} {rest : List Oper} {o : Oper} {a : Act} {Q : Exit → Act → World → Prop} (hgd : o.guard = none) (s x : Operand) (t : TypeId)
    (ho : o.op = .call { callee := .builtin .append, args := #[s, x], argTypes := #[t, t] })
    (base : Nat) (e : TypeId) (i : TypeInfo) (z : Value) (size bytes : Nat) (ht : P.underlying t = some (.slice e)) (hi : P.info? e = some i) (hz : i.zero = some z)
    (hsize : i.size = size) (hby : i.bytes = bytes) (hzs : z.cells.size = size) (hsz : 0 < size)
    (v : Value) (n : Nat) (xs : List Value) (hs : a.eval s = v) (hown : w.ownsRow base e size v n xs)
    (ad : Addr) (m c : Nat) (news : List Value) (hx : a.eval x = .slice (some ad) m c) (hl : news.length = m * size) (hnews : ∀ j u, news[j]? = some u → w.cell? (ad.add j) = some u) (h1 : ∀ u ∈ news, u.oneCell' = true)
    (h63 : n + m ≤ maxLen) (hbytes : (n + m) * bytes ≤ 140737488355328) (hbase : base ≤ w.heap.size)
    (h : ∀ v' w', w'.ownsRow base e size v' (n + m) (xs ++ news) → w.grownBy w' v.ownBlock → (v'.ownBlock = v.ownBlock ∨ v'.ownBlock = some w.heap.size) → wpList P ops Q rest (a.put o.dst v') w') : wpList P ops Q (o :: rest) a w :=
  wpList_plain hgd fun _ hK => wp_append_own_at s x t ho base e i z size bytes ht hi hz hsize hby hzs hsz v n xs hs hown ad m c news hx hl hnews h1 h63 hbytes hbase fun v' w' h2 h3 h4 => hK _ _ (h v' w' h2 h3 h4)
theorem zip_len {L : List (List UInt8 × List UInt8)} {bs : List (Nat × Nat)} (h : bs.length = L.length) : (((L.zip bs).map encL).flatten).length = L.length * 2 := by
  have key : ∀ M : List ((List UInt8 × List UInt8) × Nat × Nat), ((M.map encL).flatten).length = M.length * 2 := fun M => by
    induction M with
    | nil => rfl
    | cons x r ih => rw [List.map_cons, List.flatten_cons, List.length_append, ih]; simp [encL]; omega
  rw [key, List.length_zip, h]; simp
section
variable {w : World} {lo g c : Nat} {L : List (List UInt8 × List UInt8)} {bs : List (Nat × Nat)}
theorem LentFiles.cap (h : LentFiles w lo g c L bs) : L.length + 1 ≤ c := by
  obtain ⟨a, c', e, hc, _⟩ := ownsRow_cell h.row
  cases e; exact hc
theorem LentFiles.cells (h : LentFiles w lo g c L bs) (i : Nat) (d : List UInt8 × List UInt8) (b : Nat × Nat) (hd : L[i]? = some d) (hb : bs[i]? = some b) : w.cell? ⟨g, i * 2, none⟩ = some (sv d.1) ∧ w.cell? ⟨g, i * 2 + 1, none⟩ = some (.slice (some ⟨b.1, 0, none⟩) d.2.length b.2) := by
  obtain ⟨a, c', e, _, _, hat⟩ := ownsRow_cell h.row
  cases e
  have hi := (List.getElem?_eq_some_iff.1 hd).1
  have hz : (L.zip bs)[i]? = some (d, b) := by rw [List.getElem?_zip_eq_some]; exact ⟨hd, hb⟩
  have hl := zip_len h.lent.count
  have h0 := flatK 2 encL (L.zip bs) i (d, b) hz (fun y _ => encL_two y) 0 _ (by omega) rfl
  have h1 := flatK 2 encL (L.zip bs) i (d, b) hz (fun y _ => encL_two y) 1 _ (by omega) rfl
  obtain ⟨g0, e0, q0⟩ := hat (i * 2 + 0) (sv d.1) (by rw [List.getElem?_append_left (by omega)]; exact h0)
  obtain ⟨g1, e1, q1⟩ := hat (i * 2 + 1) (.slice (some ⟨b.1, 0, none⟩) d.2.length b.2) (by rw [List.getElem?_append_left (by omega)]; exact h1)
  cases e0; cases e1
  exact ⟨q0, q1⟩
theorem LentFiles.room (h : LentFiles w lo g c L bs) : w.cell? ⟨g, L.length * 2, none⟩ = some (sv room) := by
  obtain ⟨a, c', e, _, _, hat⟩ := ownsRow_cell h.row
  cases e
  have hl := zip_len h.lent.count
  obtain ⟨g0, e0, q0⟩ := hat (L.length * 2) (sv Proofs.YtgckcnnnblggbaaGreat.room) (by rw [List.getElem?_append_right (by omega), hl]; simp)
  cases e0
  exact q0
theorem LentFiles.arg (h : LentFiles w lo g c L bs) : FilesArg w (some ⟨g, 0, none⟩) L := fun _ => ⟨g, 0, rfl, fun i d hd => by
  have hi := (List.getElem?_eq_some_iff.1 hd).1
  have hcnt := h.lent.count
  obtain ⟨b, hb⟩ : ∃ b, bs[i]? = some b := ⟨bs[i]'(by omega), by simp⟩
  obtain ⟨h0, h1⟩ := h.cells i d b hd hb
  simp only [Nat.zero_add]
  exact ⟨h0, _, _, h1, (fun e => by cases e), (h.lent.file i d b hd hb).1.rowAt⟩⟩
theorem LentFiles.kept (h : LentFiles w lo g c L bs) {w' : World} {O : Nat → Prop} (hc : Chg O w w') (hO : ∀ b, lo ≤ b → b < w.heap.size → ¬ O b) : LentFiles w' lo g c L bs :=
  ⟨hc.row h.row (fun k hk => hO k (h.row.lt k hk).1 (h.row.lt k hk).2), h.lent.kept hc (fun b hb => hO b.1 (h.lent.mem hb).1 (h.lent.mem hb).2) (fun b hb => h.lent.ne hb)⟩
theorem LentFiles.below (h : LentFiles w lo g c L bs) {w' : World} (hb : Below w.heap.size w w') : LentFiles w' lo g c L bs := h.kept (O := fun _ => False) (Chg.of_below hb) (fun _ _ _ h => h)
/-- the beginning of a row of the call's own -/
theorem ownsRow_prefix {w : World} {base : Nat} {e : TypeId} {size g n m c : Nat} {xs ys : List Value} (h : w.ownsRow base e size (.slice (some ⟨g, 0, none⟩) n c) n (xs ++ ys)) (hm : m ≤ n) (hl : xs.length = m * size) : w.ownsRow base e size (.slice (some ⟨g, 0, none⟩) m c) m xs := by
  rcases h.2 with ⟨e1, _⟩ | ⟨g', cap, cur, e1, h1, h2, h3, h4, h5, h6⟩
  · cases e1
  · cases e1
    have hle : m * size ≤ n * size := Nat.mul_le_mul_right _ hm
    refine ⟨hl, .inr ⟨g, c, cur, rfl, h1, h2, by omega, h4, h5, ?_⟩⟩
    have h7 : (cur.toList.take (n * size)).take (m * size) = (xs ++ ys).take (m * size) := by rw [h6]
    rw [List.take_take, Nat.min_eq_left hle, ← hl, List.take_left' rfl] at h7
    rw [← hl]
    exact h7
theorem LentFiles.spoilOk (h : LentFiles w lo g c L bs) (hL : ∀ d ∈ L, d.2.length ≤ 70368744177664) : SpoilOk w lo (.slice (some ⟨g, 0, none⟩) L.length c) L.length (((L.zip bs).map encL).flatten) := by
  have hcnt := h.lent.count
  have hat : ∀ (i : Nat) (hi : i < L.length), ((L.zip bs).map encL).flatten[i * 2 + 1]? = some (.slice (some ⟨(bs[i]'(by omega)).1, 0, none⟩) (L[i]).2.length (bs[i]'(by omega)).2) := fun i hi => by
    have hz : (L.zip bs)[i]? = some (L[i], bs[i]'(by omega)) := by rw [List.getElem?_zip_eq_some]; exact ⟨by simp, by simp⟩
    exact flatK 2 encL (L.zip bs) i _ hz (fun y _ => encL_two y) 1 _ (by omega) rfl
  refine ⟨ownsRow_prefix h.row (by omega) (zip_len hcnt), fun k hk => ?_, fun j k U U' hjk hk hU hU' b hb hb' => ?_⟩
  · have h1 := h.lent.file k L[k] (bs[k]'(by omega)) (by simp) (by simp)
    have h2 := h1.1
    unfold Lent at h2
    rw [List.map_append] at h2
    refine ⟨_, _, _, hat k hk, ownsRow_prefix h2 (by omega) (by simp), hL _ (List.getElem_mem _), fun b hb hb' => ?_⟩
    cases hb
    cases hb'
    exact h1.2 rfl
  · rw [hat j (by omega)] at hU; cases hU
    rw [hat k hk] at hU'; cases hU'
    have hb1 : bs[j].1 = b := by simpa [Value.ownBlock] using hb
    have hb2 : bs[k].1 = b := by simpa [Value.ownBlock] using hb'
    have h3 := List.pairwise_iff_getElem.1 h.lent.apart j k (by simp; omega) (by simp; omega) hjk
    simp at h3
    exact h3 (hb1.trans hb2.symm)
end

set_option maxRecDepth 100000 in
set_option maxHeartbeats 8000000 in
theorem lentFiles_any {w : World} {a : Option Addr} {c : Nat} {L : List (List UInt8 × List UInt8)} (hA : FilesArg w a L) (hLn : L.length ≤ maxList) (hsz : ∀ p ∈ L, p.2.length ≤ 70368744177664) :
    Calls Tryz.prog 21 #[.slice a L.length c] w fun e w' => ∃ g c' bs, e = .returned (.slice (some ⟨g, 0, none⟩) L.length c') ∧ LentFiles w' w.heap.size g c' L bs ∧ Below w.heap.size w w' := by
  have hmax : maxLen = 9223372036854775807 := rfl
  have hmx : maxList = 4194304 := rfl
  obtain ⟨i1, hi1, hw0, hw1, hw2⟩ := info_parts Tryz.info56
  have HA := Lib.hid hA
  have HSZ := Lib.hid hsz
  clear hA hsz
  go_enter Tryz.func21, Tryz.ntmps21
  go_wp2
  go_loopw [3, 4] (fun v i wr => ∃ k : Nat, k ≤ L.length ∧ i = .int .i64 k ∧ Below w.heap.size w wr ∧ ∃ bs, wr.ownsRow w.heap.size 56 2 v k ((((L.take k).zip bs).map encL).flatten) ∧ LentIn wr w.heap.size v (L.take k) bs) (fun _ i _ => L.length - (RowKit.intOf i).toNat)
  case atStart => exact ⟨0, by omega, rfl, Below.refl _ _, [], World.ownsRow_nil _ _ _ _, ⟨rfl, fun i d b h => by simp at h, by simp⟩⟩
  case round =>
    obtain ⟨k, hk, rfl, hb, bs, hrow, hin⟩ := hrel
    have hsz := hb.size
    obtain ⟨fa0, fc0, rfl, _⟩ := ownsRow_cell hrow
    have hcnt := hin.count
    rw [List.length_take] at hcnt
    by_cases hlt : k < L.length
    · obtain ⟨d, hd⟩ : ∃ d, L[k]? = some d := ⟨L[k]'hlt, by simp⟩
      obtain ⟨xb, xo, rfl, hcs⟩ := HA.out (fun e => by rw [e] at hlt; simp at hlt)
      obtain ⟨hn0, ua, uc, hu0, hnil, hru⟩ := hcs k d hd
      have hdl := HSZ.out d (List.mem_of_getElem? hd)
      have q0 := (hb.cell (p := ⟨xb, xo + k * 2, none⟩) (cell_lt hn0)).trans hn0
      have q1 := (hb.cell (p := ⟨xb, xo + k * 2 + 1, none⟩) (cell_lt hu0)).trans hu0
      unfold sv at q0
      have j0 : (0 : Int) ≤ (k : Int) := by omega
      have j1 : (k : Int) < (L.length : Int) := by omega
      have hln := lent_any (w := wr.drew) (hru.below (w' := wr.drew) hb.drew) hnil hdl
      have htk : L.take (k + 1) = L.take k ++ [d] := by
        obtain ⟨h1, e1⟩ := List.getElem?_eq_some_iff.1 hd
        rw [List.take_succ_eq_append_getElem h1, e1]
      have hvl := fun b (h : (Value.slice fa0 k fc0).ownBlock = some b) => hrow.lt b h
      have HTK := Lib.hid htk
      have HIN := Lib.hid hin
      have HCN := Lib.hid hcnt
      have HCS := Lib.hid hcs
      clear htk hd hin hru hcs hcnt
      go_wp2
      have hS0 := And.intro q0 q1
      refine wp_region_held_drew (S := fun w' => w'.cell? ⟨xb, xo + k * 2, none⟩ = some (.string ⟨d.1.toArray⟩) ∧ w'.cell? ⟨xb, xo + k * 2 + 1, none⟩ = some (.slice ua d.2.length uc)) (by kernel_rfl) (hS0) (fun hHeld => ?_)
      refine wpAnyH_take (i := 0) (v := ?_) rfl (by kernel_rfl) (by kernel_rfl) (by kernel_rfl) (fun _ _ _ h => h) (Or.inl ⟨by rfl, ?_⟩) hHeld ?_
      rotate_left
      · intro w hSw; (try dsimp only at hSw); go_simp
        all_goals (with_reducible rfl)
      (try simp only [Act.put, List.setIfInBounds_toArray, List.set_cons_zero, List.set_cons_succ])
      refine wpAnyH_take (i := 1) (v := ?_) rfl (by kernel_rfl) (by kernel_rfl) (by kernel_rfl) (fun _ _ _ h => h) (Or.inl ⟨by rfl, ?_⟩) hHeld ?_
      rotate_left
      · intro w hSw; (try dsimp only at hSw); go_simp
        all_goals (with_reducible rfl)
      (try simp only [Act.put, List.setIfInBounds_toArray, List.set_cons_zero, List.set_cons_succ])
      refine wpAnyH_take (i := 2) (v := ?_) rfl (by kernel_rfl) (by kernel_rfl) (by kernel_rfl) (fun _ _ _ h => h) (Or.inl ⟨by rfl, ?_⟩) hHeld ?_
      rotate_left
      · intro w hSw; (try dsimp only at hSw); go_simp
        all_goals (with_reducible rfl)
      (try simp only [Act.put, List.setIfInBounds_toArray, List.set_cons_zero, List.set_cons_succ])
      refine wpAnyH_take (i := 3) (v := ?_) rfl (by kernel_rfl) (by kernel_rfl) (by kernel_rfl) (fun _ _ _ h => h) (Or.inl ⟨by rfl, ?_⟩) hHeld ?_
      rotate_left
      · intro w hSw; (try dsimp only at hSw); go_simp
        all_goals (with_reducible rfl)
      (try simp only [Act.put, List.setIfInBounds_toArray, List.set_cons_zero, List.set_cons_succ])
      refine wpAnyH_take (i := 4) (v := ?_) rfl (by kernel_rfl) (by kernel_rfl) (by kernel_rfl) (fun _ _ _ h => h) (Or.inl ⟨by rfl, ?_⟩) hHeld ?_
      rotate_left
      · intro w hSw; (try dsimp only at hSw); go_simp
        all_goals (with_reducible rfl)
      (try simp only [Act.put, List.setIfInBounds_toArray, List.set_cons_zero, List.set_cons_succ])
      refine wpAnyH_take (i := 5) (v := ?_) rfl (by kernel_rfl) (by kernel_rfl) (by kernel_rfl) (fun _ _ _ h => h) (Or.inl ⟨by rfl, ?_⟩) hHeld ?_
      rotate_left
      · intro w hSw; (try dsimp only at hSw); go_simp
        all_goals (with_reducible rfl)
      (try simp only [Act.put, List.setIfInBounds_toArray, List.set_cons_zero, List.set_cons_succ])
      refine wpAnyH_take (i := 6) (v := ?_) rfl (by kernel_rfl) (by kernel_rfl) (by kernel_rfl) (fun _ _ _ h => h) (Or.inl ⟨by rfl, ?_⟩) hHeld ?_
      rotate_left
      · intro w hSw; (try dsimp only at hSw); go_simp
        all_goals (with_reducible rfl)
      (try simp only [Act.put, List.setIfInBounds_toArray, List.set_cons_zero, List.set_cons_succ])
      refine wpAnyH_take (i := 7) (v := ?_) rfl (by kernel_rfl) (by kernel_rfl) (by kernel_rfl) (fun _ _ _ h => h) (Or.inl ⟨by rfl, ?_⟩) hHeld ?_
      rotate_left
      · intro w hSw; (try dsimp only at hSw); go_simp
        all_goals (with_reducible rfl)
      (try simp only [Act.put, List.setIfInBounds_toArray, List.set_cons_zero, List.set_cons_succ])
      refine wpAnyH_take (i := 8) (v := ?_) rfl (by kernel_rfl) (by kernel_rfl) (by kernel_rfl) (fun _ _ _ h => h) (Or.inl ⟨by rfl, ?_⟩) hHeld ?_
      rotate_left
      · intro w hSw; (try dsimp only at hSw); go_simp
        all_goals (with_reducible rfl)
      (try simp only [Act.put, List.setIfInBounds_toArray, List.set_cons_zero, List.set_cons_succ])
      refine wpAnyH_take (i := 9) (v := ?_) rfl (by kernel_rfl) (by kernel_rfl) (by kernel_rfl) (fun _ _ _ h => h) (Or.inl ⟨by rfl, ?_⟩) hHeld ?_
      rotate_left
      · intro w hSw; (try dsimp only at hSw); go_simp
        all_goals (with_reducible rfl)
      (try simp only [Act.put, List.setIfInBounds_toArray, List.set_cons_zero, List.set_cons_succ])
      refine wpAnyH_take (i := 10) (v := ?_) rfl (by kernel_rfl) (by kernel_rfl) (by kernel_rfl) (fun _ _ _ h => h) (Or.inl ⟨by rfl, ?_⟩) hHeld ?_
      rotate_left
      · intro w hSw; (try dsimp only at hSw); go_simp
        all_goals (with_reducible rfl)
      (try simp only [Act.put, List.setIfInBounds_toArray, List.set_cons_zero, List.set_cons_succ])
      refine wpAnyH_ready (rs := [11]) (by kernel_rfl) (by simp) ?_
      refine AllReadyH.cons rfl (fun K hK => ?_) AllReadyH.nil
      go_simp
      go_wp2_with (first | (go_at_call 36; refine hln.mono ?_; rintro _ w2 ⟨gb, cb, rfl, hlent, hb2⟩; replace hb2 : Below wr.heap.size wr w2 := ⟨hb2.os, hb2.tape, hb2.output, hb2.size, hb2.block⟩; replace hlent : Lent w2 wr.heap.size gb cb d.2 := hlent))
      have hcb := Chg.of_below (O := fun _ => False) hb2
      have hS2 := And.intro (hcb.cell q0 (fun h => h)) (hcb.cell q1 (fun h => h))
      refine hK.out _ _ (hS2) (fun hHeld => ?_)
      clear hK K
      (try simp only [Act.put, List.setIfInBounds_toArray, List.set_cons_zero, List.set_cons_succ])
      refine wpAnyH_take (i := 12) (v := ?_) rfl (by kernel_rfl) (by kernel_rfl) (by kernel_rfl) (fun _ _ _ h => h) (Or.inl ⟨by rfl, ?_⟩) hHeld ?_
      rotate_left
      · intro w hSw; (try dsimp only at hSw); go_simp
        all_goals (with_reducible rfl)
      (try simp only [Act.put, List.setIfInBounds_toArray, List.set_cons_zero, List.set_cons_succ])
      refine wpAnyH_ready (rs := [13]) (by kernel_rfl) (by simp) ?_
      refine AllReadyH.cons rfl (fun K hK => ?_) AllReadyH.nil
      go_simp
      have hc2a : Chg (fun _ => False) w2 (w2.alloc (.cells #[.string ⟨d.1.toArray⟩, .slice (some ⟨gb, 0, none⟩) d.2.length cb] 56)) := Chg.alloc _ _ _
      have hS3 := And.intro (hc2a.cell hS2.1 (fun h => h)) (hc2a.cell hS2.2 (fun h => h))
      refine hK.out _ _ (hS3) (fun hHeld => ?_)
      clear hK K
      (try simp only [Act.put, List.setIfInBounds_toArray, List.set_cons_zero, List.set_cons_succ])
      refine wpAnyH_ready (rs := [14]) (by kernel_rfl) (by simp) ?_
      refine AllReadyH.cons rfl (fun K hK => ?_) AllReadyH.nil
      rw [if_pos (by rfl)]
      refine wp_append_own_at (.tmp 11) (.tmp 24) 22 rfl w.heap.size 56 i1 _ 2 40 Tryz.underlying22 hi1 hw0 hw1 hw2 rfl (by decide) (.slice fa0 k fc0) k _ rfl ((hc2a.row (hcb.row hrow (fun _ _ h => h)) (fun _ _ h => h))) ⟨w2.heap.size, 0, none⟩ 1 1 [sv d.1, .slice (some ⟨gb, 0, none⟩) d.2.length cb] rfl rfl (fun j u hu => by rw [addr_add]; exact cell_new w2 _ _ j u (by simpa [sv] using hu)) (by simp [sv, Value.oneCell']) (by omega) (by omega) (by rw [World.size_alloc]; have := hb2.size; omega) ?_
      intro v5 w5 hv5 hg5 hat5
      rw [World.size_alloc] at hat5
      have hc5 : Chg (fun b => w.heap.size ≤ b) (w2.alloc (.cells #[.string ⟨d.1.toArray⟩, .slice (some ⟨gb, 0, none⟩) d.2.length cb] 56)) w5 := Chg.of_grown hg5 (fun k e _ => (hvl k e).1)
      have hlo : ∀ (a : Addr) u, w.cell? a = some u → ¬ (w.heap.size ≤ a.block) := fun a u h => by have := cell_lt h; omega
      have hS4 := And.intro (hc5.cell hS3.1 (hlo _ _ hn0)) (hc5.cell hS3.2 (hlo _ _ hu0))
      refine hK.out _ _ (hS4) (fun hHeld => ?_)
      clear hK K
      (try simp only [Act.put, List.setIfInBounds_toArray, List.set_cons_zero, List.set_cons_succ])
      refine wpAnyH_take (i := 15) (v := ?_) rfl (by kernel_rfl) (by kernel_rfl) (by kernel_rfl) (fun _ _ _ h => h) (Or.inl ⟨by rfl, ?_⟩) hHeld ?_
      rotate_left
      · intro w hSw; (try dsimp only at hSw); go_simp
        all_goals (with_reducible rfl)
      (try simp only [Act.put, List.setIfInBounds_toArray, List.set_cons_zero, List.set_cons_succ])
      refine wpAnyH_done (by kernel_rfl) ?_ _
      go_wp2
      have hb5 : Below w.heap.size w w5 := ((hb.trans (hb2.mono hsz)).alloc (by have := hb2.size; omega) _).grown hg5 (by rw [World.size_alloc]; have := hb2.size; omega) (fun b e => (hvl b e).1)
      have hc25 : Chg (fun b => (Value.slice fa0 k fc0).ownBlock = some b) w2 w5 := (Chg.alloc (fun b => (Value.slice fa0 k fc0).ownBlock = some b) w2 _).trans (Chg.of_grown hg5 (fun k e _ => e)) (fun _ h _ => h)
      have hcr5 : Chg (fun b => (Value.slice fa0 k fc0).ownBlock = some b) wr w5 := (hcb.mono (fun _ h _ => h.elim)).trans hc25 (fun _ h _ => h)
      have hz2 := hb2.size
      have hz5 := hc25.size
      have hgb := hlent.lt
      have hne5 : ∀ x : Nat, (x < wr.heap.size → (Value.slice fa0 k fc0).ownBlock ≠ some x) → x < w2.heap.size → v5.ownBlock ≠ some x := fun x h1 h2 e => by
        rcases hat5 with e' | e'
        · rw [e'] at e; exact h1 (hvl x e).2 e
        · rw [e'] at e; cases e; omega
      have hin5 : LentIn w5 w.heap.size v5 (L.take k) bs := HIN.out.kept hcr5 (fun b hbm e => HIN.out.ne hbm e) (fun b hbm => hne5 b.1 (fun _ => HIN.out.ne hbm) (by have := (HIN.out.mem hbm).2; omega))
      have hl5 : Lent w5 w.heap.size gb cb d.2 := by
        unfold Lent at hlent ⊢
        exact hc25.row (ownsRow_base_le hlent hsz) (fun x e e' => by cases e; have := (hvl gb e').2; omega)
      have hin6 : LentIn w5 w.heap.size v5 (L.take (k + 1)) (bs ++ [(gb, cb)]) := by
        rw [HTK.out]
        exact hin5.push hl5 (hne5 gb (fun h => by omega) hgb.2) (fun x hx e => by have h1 := (HIN.out.mem hx).2; have h2 : x.1 = gb := e; omega)
      have hrow5 : w5.ownsRow w.heap.size 56 2 v5 (k + 1) ((((L.take (k + 1)).zip (bs ++ [(gb, cb)])).map encL).flatten) := by
        have hbl : bs.length = (L.take k).length := HIN.out.count
        rw [HTK.out, List.zip_append hbl.symm]
        simp only [List.zip_cons_cons, List.zip_nil_right, List.map_append, List.map_cons, List.map_nil, List.flatten_append, List.flatten_cons, List.flatten_nil, List.append_nil]
        exact hv5
      have HR := Lib.hid (And.intro hb5 (And.intro hrow5 hin6))
      clear hb5 hrow5 hin6 hin5 hl5 hv5 hne5
      go_roundw
      case rel => exact ⟨k + 1, by omega, by go_num, HR.out.1, _, HR.out.2.1, HR.out.2.2⟩
      case measure => simp [RowKit.intOf]; omega
    · obtain rfl : k = L.length := by omega
      have j1 : ¬ (L.length : Int) < (L.length : Int) := by omega
      rw [List.take_length] at hrow hin
      have hvl := fun b (h : (Value.slice fa0 L.length fc0).ownBlock = some b) => hrow.lt b h
      have HIN := Lib.hid hin
      clear hin hcnt
      go_wp2_with (at_builtin; refine wpList_append_own_at _ rfl (.tmp 26) (.tmp 28) 22 rfl w.heap.size 56 i1 _ 2 40 Tryz.underlying22 hi1 hw0 hw1 hw2 rfl (by decide) (.slice fa0 L.length fc0) L.length _ rfl (World.ownsRow.alloc hrow _) ⟨wr.heap.size, 0, none⟩ 1 1 [sv room, .slice none 0 0] rfl rfl (fun j u hu => by rw [addr_add]; exact cell_new wr _ _ j u (by simpa [sv, room] using hu)) (by simp [sv, Value.oneCell']) (by omega) (by omega) (by rw [World.size_alloc]; omega) ?_; intro v5 w5 hv5 hg5 hat5; have hhat := hat5; obtain ⟨a5, c5, rfl, hc5, _, hat6⟩ := ownsRow_cell hv5; obtain ⟨g5, rfl, _⟩ := hat6 (L.length * 2) (sv room) (by rw [List.getElem?_append_right (by rw [zip_len HIN.out.count]; omega), zip_len HIN.out.count]; simp); have hsl := run_slice_hiK (P := Tryz.prog) 22 56 2 Tryz.underlying22 Tryz.sizeOf56' (some ⟨g5, 0, none⟩) (L.length + 1) c5 L.length (by omega))
      go_ret
      have hb5 : Below w.heap.size w w5 := (hb.alloc hsz _).grown hg5 (by rw [World.size_alloc]; omega) (fun b e => (hvl b e).1)
      have hc5' : Chg (fun b => (Value.slice fa0 L.length fc0).ownBlock = some b) wr w5 := (Chg.alloc _ wr _).trans (Chg.of_grown hg5 (fun k e _ => e)) (fun _ h _ => h)
      exact ⟨g5, c5, rfl, ⟨bs, hv5, HIN.out.kept hc5' (fun b hbm e => HIN.out.ne hbm e) (fun b hbm e => by
        have h1 := HIN.out.mem hbm
        rw [World.size_alloc] at hhat
        rcases hhat with e' | e'
        · rw [e'] at e; exact HIN.out.ne hbm e
        · rw [e'] at e; simp only [Option.some.injEq] at e; omega)⟩, hb5⟩

end Go.Proofs.YtgckcnnnblggbaaGreat
