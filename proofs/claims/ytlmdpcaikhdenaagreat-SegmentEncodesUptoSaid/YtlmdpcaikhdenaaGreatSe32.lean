/- Texts of this claim, one behind the other: Shk. -/
import Derived.Test.YtlmdpcaikhdenaaGreatSe29
import Derived.Test.YtlmdpcaikhdenaaGreatSe31
import Derived.Deep.RegionHeld3
set_option linter.unusedSimpArgs false
set_option linter.unusedVariables false
/- Segment: the law's lent. (printed by gen/lent17.py) -/
namespace Go.Proofs.YtlmdpcaikhdenaaGreat
open Go.RowKit Go.Maps

/-- append, at a step of a region, and where the row lies then -/
theorem wp_append_seg {P : Program} {w : World} {o : Oper} {a : Act} {K : Act → World → Prop} {Q : Exit → Act → World → Prop} (s x : Operand) (t : TypeId)
    (ho : o.op = .call { callee := .builtin .append, args := #[s, x], argTypes := #[t, t] })
    (base : Nat) (e : TypeId) (i : TypeInfo) (z : Value) (size bytes : Nat) (ht : P.underlying t = some (.slice e)) (hi : P.info? e = some i) (hz : i.zero = some z)
    (hsize : i.size = size) (hby : i.bytes = bytes) (hzs : z.cells.size = size) (hsz : 0 < size)
    (v : Value) (n : Nat) (xs : List Value) (hs : a.eval s = v) (hown : w.ownsRow base e size v n xs)
    (ad : Addr) (m c : Nat) (news : List Value) (hx : a.eval x = .slice (some ad) m c) (hl : news.length = m * size) (hnews : ∀ j u, news[j]? = some u → w.cell? (ad.add j) = some u) (h1 : ∀ u ∈ news, u.oneCell' = true)
    (h63 : n + m ≤ maxLen) (hbytes : (n + m) * bytes ≤ 140737488355328) (hbase : base ≤ w.heap.size)
    (h : ∀ v' w', w'.ownsRow base e size v' (n + m) (xs ++ news) → Grew v w v' w' → K (a.put o.dst v') w') : o.wp P a w K Q := by
  obtain ⟨v', w', hr, h2, h3, _, h5⟩ := run_append_own_at (P := P) w base t o.type e i z size bytes ht hi hz hsize hby hzs hsz v n xs hown ad m c news hl hnews h1 h63 hbytes hbase
  unfold Oper.wp execOp
  simp only [ho, resolve, invoke, builtin, Sem.run_bind, Sem.run_pure, Result.andThen_ok, List.map_toArray, List.map_cons, List.map_nil, hs, hx, hr]
  exact h v' w' h2 (Grew.append h3 h5)
theorem wp_append_segsrc {P : Program} {w : World} {o : Oper} {a : Act} {K : Act → World → Prop} {Q : Exit → Act → World → Prop} (s x : Operand) (t : TypeId)
    (ho : o.op = .call { callee := .builtin .append, args := #[s, x], argTypes := #[t, t] })
    (base : Nat) (e : TypeId) (i : TypeInfo) (z : Value) (bytes : Nat) (ht : P.underlying t = some (.slice e)) (hi : P.info? e = some i) (hz : i.zero = some z)
    (hsize : i.size = 1) (hby : i.bytes = bytes) (hzs : z.cells.size = 1)
    (v : Value) (n : Nat) (xs : List Value) (hs : a.eval s = v) (hown : w.ownsRow base e 1 v n xs)
    (sa : Option Addr) (m c : Nat) (news : List Value) (hx : a.eval x = .slice sa m c) (hl : news.length = m) (hnil : sa = none → c = 0) (hnews : RowAt w sa news) (h1 : ∀ u ∈ news, u.oneCell' = true)
    (h63 : n + m ≤ maxLen) (hbytes : (n + m) * bytes ≤ 140737488355328) (hbase : base ≤ w.heap.size)
    (h : ∀ v' w', w'.ownsRow base e 1 v' (n + m) (xs ++ news) → Grew v w v' w' → K (a.put o.dst v') w') : o.wp P a w K Q := by
  cases sa with
  | none =>
    have hn : news = [] := by
      by_cases hne : news = []
      · exact hne
      · obtain ⟨b, off, e, _⟩ := hnews hne; cases e
    subst hn
    obtain rfl : m = 0 := by simpa using hl.symm
    obtain rfl : c = 0 := hnil rfl
    have hrun := run_append_owned_none (P := P) (w := w) base t o.type e i 1 ht hi v n xs hown
    have hk := h v w (by simpa using hown) (Grew.refl _ _)
    unfold Oper.wp
    simp [execOp, ho, resolve, invoke, builtin, hs, hx, hrun, Result.andThen]
    exact hk
  | some ad =>
    refine wp_append_seg s x t ho base e i z 1 bytes ht hi hz hsize hby hzs (by decide) v n xs hs hown ad m c news hx (by omega) ?_ h1 h63 hbytes hbase h
    intro j u hu
    have hne : news ≠ [] := by intro e; subst e; simp at hu
    obtain ⟨b, off, e, hc⟩ := hnews hne
    cases e
    have := hc j u hu
    rwa [show (⟨b, off, none⟩ : Addr).add j = ⟨b, off + j, none⟩ from by unfold Addr.add; split <;> simp_all]
/-- a lent entry: its bytes, and a mark behind them, in a block of R -/
def MarkIn (R : Nat → Prop) (w : World) (x : Value) (l : List UInt8) : Prop :=
  ∃ b c, x = .slice (some ⟨b, 0, none⟩) l.length c ∧ R b ∧ w.ownsRow 0 5 1 (.slice (some ⟨b, 0, none⟩) (l.length + 1) c) (l.length + 1) ((l ++ [165]).map bv)
theorem MarkIn.kept {R R' O : Nat → Prop} {w w' : World} {x : Value} {l : List UInt8} (h : MarkIn R w x l) (hc : Chg O w w') (hO : ∀ b, x.ownBlock = some b → ¬ O b) (hR : ∀ b, R b → R' b) : MarkIn R' w' x l := by
  obtain ⟨b, c, rfl, h1, h2⟩ := h
  exact ⟨b, c, rfl, hR b h1, hc.row h2 (fun k e => hO k e)⟩
theorem ownsRow_prefix1 {w : World} {base : Nat} {e : TypeId} {g n m c : Nat} {xs ys : List Value} (h : w.ownsRow base e 1 (.slice (some ⟨g, 0, none⟩) n c) n (xs ++ ys)) (hm : m ≤ n) (hl : xs.length = m) : w.ownsRow base e 1 (.slice (some ⟨g, 0, none⟩) m c) m xs := by
  rcases h.2 with ⟨e1, _⟩ | ⟨g', cap, cur, e1, h1, h2, h3, h4, h5, h6⟩
  · cases e1
  · cases e1
    refine ⟨by omega, .inr ⟨g, c, cur, rfl, h1, h2, by omega, h4, h5, ?_⟩⟩
    rw [Nat.mul_one] at h6 ⊢
    have h7 : (cur.toList.take n).take m = (xs ++ ys).take m := by rw [h6]
    rw [List.take_take, Nat.min_eq_left hm, ← hl, List.take_left' rfl] at h7
    rw [← hl]
    exact h7
theorem MarkIn.bytes {R : Nat → Prop} {w : World} {x : Value} {l : List UInt8} (h : MarkIn R w x l) : BytesIn w R x l := by
  obtain ⟨b, c, rfl, h1, h2⟩ := h
  rw [List.map_append] at h2
  have h3 := ownsRow_prefix1 h2 (Nat.le_succ _) (by simp)
  obtain ⟨a', c', e, hr, _⟩ := RowAt.of_owns h3
  cases e
  refine ⟨_, _, rfl, ?_, (fun e => by cases e), hr, fun y e => by cases e; exact h1, fun y e => by cases e; rfl, h3⟩
  rcases h3.2 with ⟨e1, _⟩ | ⟨g', cap, cur, e1, _, _, h5, _⟩
  · cases e1
  · cases e1; exact h5
/-- lent entries: the row, and a mark behind it -/
def LentAt (R : Nat → Prop) (w : World) (g c : Nat) (L : List (List UInt8)) : Prop :=
  ∃ vs m, w.ownsRow 0 26 1 (.slice (some ⟨g, 0, none⟩) (L.length + 1) c) (L.length + 1) (vs ++ [m]) ∧ vs.length = L.length ∧ R g ∧ (∀ (i : Nat) x l, vs[i]? = some x → L[i]? = some l → MarkIn R w x l) ∧ ∃ mb mc, m = .slice (some ⟨mb, 0, none⟩) 1 mc ∧ R mb ∧ w.ownsRow 0 5 1 m 1 [bv 119]
theorem LentAt.kept {R R' O : Nat → Prop} {w w' : World} {g c : Nat} {L : List (List UInt8)} (h : LentAt R w g c L) (hc : Chg O w w') (hO : ∀ b, R b → ¬ O b) (hR : ∀ b, R b → R' b) : LentAt R' w' g c L := by
  obtain ⟨vs, m, h1, h2, h3, h4, mb, mc, rfl, h5, h6⟩ := h
  refine ⟨vs, _, hc.row h1 (fun b e => by cases e; exact hO g h3), h2, hR g h3, fun i x l hx hl => ?_, mb, mc, rfl, hR mb h5, hc.row h6 (fun b e => by cases e; exact hO mb h5)⟩
  have hm := h4 i x l hx hl
  refine hm.kept hc (fun b e => ?_) hR
  obtain ⟨b2, c2, rfl, h7, _⟩ := hm
  cases e
  exact hO _ h7
theorem LentAt.below {R : Nat → Prop} {w w' : World} {g c : Nat} {L : List (List UInt8)} (h : LentAt R w g c L) (hb : Below w.heap.size w w') : LentAt R w' g c L := h.kept (O := fun _ => False) (Chg.of_below hb) (fun _ _ h => h) (fun _ h => h)
theorem LentAt.ents {R : Nat → Prop} {w : World} {g c : Nat} {L : List (List UInt8)} (h : LentAt R w g c L) : EntIn R w (.slice (some ⟨g, 0, none⟩) L.length c) L := by
  obtain ⟨vs, m, h1, h2, h3, h4, _⟩ := h
  exact ⟨vs, ownsRow_prefix1 h1 (Nat.le_succ _) h2, fun b e => by cases e; exact h3, h2, fun i x l hx hl => (h4 i x l hx hl).bytes⟩
/-- the loop's row -/
def LentR (R : Nat → Prop) (w : World) (v : Value) (L : List (List UInt8)) : Prop :=
  ∃ vs, w.ownsRow 0 26 1 v L.length vs ∧ (∀ b, v.ownBlock = some b → R b) ∧ vs.length = L.length ∧ ∀ (i : Nat) x l, vs[i]? = some x → L[i]? = some l → MarkIn R w x l
theorem ty_apart {w : World} {v x : Value} {n m : Nat} {xs ys : List Value} (h1 : w.ownsRow 0 26 1 v n xs) (h2 : w.ownsRow 0 5 1 x m ys) {b : Nat} (hb : v.ownBlock = some b) (hx : x.ownBlock = some b) : False := by
  obtain ⟨cs, fr, e1⟩ := ownsRow_ty h1 hb
  obtain ⟨cs', fr', e2⟩ := ownsRow_ty h2 hx
  rw [e1] at e2
  simp only [Option.some.injEq, Obj.cells.injEq] at e2
  exact absurd e2.2.1 (by decide)
theorem LentR.push {R : Nat → Prop} {w w1 w2 : World} {v v' x : Value} {L : List (List UInt8)} {l : List UInt8} {vs : List Value}
    (h1 : w.ownsRow 0 26 1 v L.length vs) (h2 : ∀ b, v.ownBlock = some b → R b) (h3 : vs.length = L.length) (h4 : ∀ (i : Nat) x l, vs[i]? = some x → L[i]? = some l → MarkIn R w x l)
    (hc : Chg (fun _ => False) w w1) (hx : MarkIn R w1 x l) (hr : w2.ownsRow 0 26 1 v' (L.length + 1) (vs ++ [x])) (hg : Grew v w1 v' w2) (hR : ∀ b, w1.heap.size ≤ b → R b) : LentR R w2 v' (L ++ [l]) := by
  have h1' := hc.row h1 (fun _ _ h => h)
  have nb : ∀ {y : Value} {m : List UInt8}, MarkIn R w1 y m → MarkIn R w2 y m := fun {y m} hy => by
    refine hy.kept hg.1 (fun b hb ho => ?_) (fun _ h => h)
    obtain ⟨b2, c2, rfl, k1, k2⟩ := hy
    exact ty_apart h1' k2 ho hb
  refine ⟨vs ++ [x], by rw [List.length_append]; exact hr, fun b hb => ?_, by simp [h3], fun i y m hy hm => ?_⟩
  · rcases hg.2 with e | ⟨g, e, hge⟩
    · exact h2 b (by rw [← e]; exact hb)
    · rw [e] at hb; cases hb; exact hR _ hge
  · by_cases hi : i < vs.length
    · rw [List.getElem?_append_left hi] at hy
      rw [List.getElem?_append_left (by omega)] at hm
      exact nb ((h4 i y m hy hm).kept hc (fun _ _ h => h) (fun _ h => h))
    · have hi2 : i = vs.length := by
        have := (List.getElem?_eq_some_iff.1 hy).1
        simp at this
        omega
      rw [List.getElem?_append_right (by omega), hi2] at hy
      rw [List.getElem?_append_right (by omega), hi2, h3] at hm
      simp at hy hm
      subst hy hm
      exact nb hx

theorem lent_fin {R : Nat → Prop} {wr w8 wC w9 : World} {oa : Option Addr} {oc k gb c8 n0 : Nat} {L : List (List UInt8)} {x : List UInt8} {vs : List Value} {v9 : Value}
    (hS : (∀ b, (Value.slice oa k oc).ownBlock = some b → R b) ∧ vs.length = k ∧ ∀ (i : Nat) x l, vs[i]? = some x → (L.take k)[i]? = some l → MarkIn R wr x l) (s1 : wr.ownsRow 0 26 1 (.slice oa k oc) k vs) (hkl : (L.take k).length = k) (hR : ∀ b, n0 ≤ b → R b) (hn0 : n0 ≤ wr.heap.size)
    (hb8 : Below wr.heap.size wr w8) (r8 : w8.ownsRow 0 5 1 (.slice (some ⟨gb, 0, none⟩) (x.length + 1) c8) (x.length + 1) (x.map bv ++ [.int .u8 165])) (ho8 : ∀ b, (Value.slice (some ⟨gb, 0, none⟩) (x.length + 1) c8).ownBlock = some b → wr.heap.size ≤ b) (hbC : Below w8.heap.size w8 wC)
    (r9 : w9.ownsRow 0 26 1 v9 (k + 1) (vs ++ [.slice (some ⟨gb, 0, none⟩) x.length c8])) (g9 : Grew (.slice oa k oc) wC v9 w9) : LentR R w9 v9 (L.take k ++ [x]) ∧ Chg (fun b => (Value.slice oa k oc).ownBlock = some b) wr w9 := by
  have hs8 := hb8.size
  have hC : Below wr.heap.size wr wC := hb8.trans (hbC.mono hs8)
  have hm : MarkIn R wC (.slice (some ⟨gb, 0, none⟩) x.length c8) x := ⟨gb, c8, rfl, hR gb (Nat.le_trans hn0 (ho8 gb rfl)), by rw [List.map_append]; exact (Chg.of_below (O := fun _ => False) hbC).row r8 (fun _ _ h => h)⟩
  refine ⟨LentR.push (w := wr) (w1 := wC) (by rw [hkl]; exact s1) hS.1 (by rw [hkl]; exact hS.2.1) hS.2.2 (Chg.of_below hC) hm (by rw [hkl]; exact r9) g9 (fun b hb => hR b (by have := hC.size; omega)), (Chg.of_below hC).trans g9.1 (fun _ h _ => h)⟩
theorem lent_end {R : Nat → Prop} {wr w5 : World} {oa : Option Addr} {oc g5 c5 n0 : Nat} {L : List (List UInt8)} {vs : List Value}
    (s1 : wr.ownsRow 0 26 1 (.slice oa L.length oc) L.length vs) (hS : (∀ b, (Value.slice oa L.length oc).ownBlock = some b → R b) ∧ vs.length = L.length ∧ ∀ (i : Nat) x l, vs[i]? = some x → L[i]? = some l → MarkIn R wr x l) (hR : ∀ b, n0 ≤ b → R b) (hn0 : n0 ≤ wr.heap.size)
    (r5 : w5.ownsRow 0 26 1 (.slice (some ⟨g5, 0, none⟩) (L.length + 1) c5) (L.length + 1) (vs ++ [.slice (some ⟨wr.heap.size, 0, none⟩) 1 1]))
    (g5' : Grew (.slice oa L.length oc) ((wr.alloc (.cells #[.int .u8 119] 5)).alloc (.cells #[.slice (some ⟨wr.heap.size, 0, none⟩) 1 1] 26)) (.slice (some ⟨g5, 0, none⟩) (L.length + 1) c5) w5) : LentAt R w5 g5 c5 L := by
  have hA : Below wr.heap.size wr ((wr.alloc (.cells #[.int .u8 119] 5)).alloc (.cells #[.slice (some ⟨wr.heap.size, 0, none⟩) 1 1] 26)) := (below_alloc _ _).alloc (by simp) _
  have hl : ((wr.alloc (.cells #[.int .u8 119] 5)).alloc (.cells #[.slice (some ⟨wr.heap.size, 0, none⟩) 1 1] 26)).ownsRow 0 5 1 (.slice (some ⟨wr.heap.size, 0, none⟩) 1 1) 1 [bv 119] := by
    have := ownsRow_lit wr 0 #[.int .u8 119] 5 1 1 (by simp) (by decide) rfl
    have e : bv 119 = .int .u8 119 := rfl
    rw [e]
    exact World.ownsRow.alloc (by simpa using this) _
  have hvl := fun b (h : (Value.slice oa L.length oc).ownBlock = some b) => (s1.lt b h).2
  have s1' := (Chg.of_below (O := fun _ => False) hA).row s1 (fun _ _ h => h)
  refine ⟨vs, _, r5, hS.2.1, ?_, fun i x l hx hl2 => ?_, wr.heap.size, 1, rfl, hR _ hn0, g5'.1.row hl (fun b e ho => by cases e; exact absurd (hvl _ ho) (Nat.lt_irrefl _))⟩
  · rcases g5'.2 with e | ⟨g, e, hge⟩
    · exact hS.1 g5 (by rw [← e]; rfl)
    · cases e; exact hR _ (by simp at hge; omega)
  · have hm := (hS.2.2 i x l hx hl2).kept (R' := R) (Chg.of_below (O := fun _ => False) hA) (fun _ _ h => h) (fun _ h => h)
    refine hm.kept g5'.1 (fun b e ho => ?_) (fun _ h => h)
    obtain ⟨b2, c2, rfl, k1, k2⟩ := hm
    exact ty_apart s1' k2 ho e
theorem lent_below {w wr w5 : World} {oa : Option Addr} {n oc : Nat} (hbw : Below w.heap.size w wr) (hS : ∀ b, (Value.slice oa n oc).ownBlock = some b → w.heap.size ≤ b) (hg : ((wr.alloc (.cells #[.int .u8 119] 5)).alloc (.cells #[.slice (some ⟨wr.heap.size, 0, none⟩) 1 1] 26)).grownBy w5 (Value.slice oa n oc).ownBlock) : Below w.heap.size w w5 :=
  (hbw.trans (((below_alloc _ _).alloc (by simp) _ : Below wr.heap.size wr ((wr.alloc (.cells #[.int .u8 119] 5)).alloc (.cells #[.slice (some ⟨wr.heap.size, 0, none⟩) 1 1] 26))).mono hbw.size)).grown hg (by simp; have := hbw.size; omega) (fun k e => hS k e)

set_option maxRecDepth 100000 in
set_option maxHeartbeats 16000000 in
theorem lent17_any {w : World} {a : Option Addr} {c : Nat} {L : List (List UInt8)} (h : EntsAt w a L) (hl : L.length ≤ 1000000000) (hb : ∀ e ∈ L, e.length ≤ 70368744177664) :
    Calls Tryz.prog 8 #[.slice a L.length c] w fun e w' => ∃ g c', e = .returned (.slice (some ⟨g, 0, none⟩) L.length c') ∧ LentAt (fun b => w.heap.size ≤ b) w' g c' L ∧ Below w.heap.size w w' := by
  have hmax : maxLen = 9223372036854775807 := rfl
  obtain ⟨i0, hi, hz0, hz1, hz2⟩ := info_parts Tryz.info5
  obtain ⟨i1, hi1, hy0, hy1, hy2⟩ := info_parts Tryz.info26
  have HE := Lib.hid h
  have HLB := Lib.hid hb
  clear h hb
  go_enter Tryz.func8, Tryz.ntmps8
  go_wp2
  go_loopw [3, 4] (fun v i wr => ∃ k : Nat, k ≤ L.length ∧ i = .int .i64 k ∧ LentR (fun b => w.heap.size ≤ b) wr v (L.take k) ∧ Below w.heap.size w wr) (fun _ i _ => L.length - (RowKit.intOf i).toNat)
  case atStart => exact ⟨0, by omega, rfl, ⟨[], World.ownsRow_nil _ _ _ _, fun b h => (by cases h), rfl, fun i x l h => by simp at h⟩, Below.refl _ _⟩
  case round =>
    obtain ⟨k, hk, rfl, hent, hbw⟩ := hrel
    obtain ⟨vs, s1, s2, s3, s4⟩ := hent
    have hkl : (L.take k).length = k := by simp; omega
    rw [hkl] at s1 s3
    obtain ⟨oa, oc, rfl, _, _⟩ := RowAt.of_owns s1
    by_cases hlt : k < L.length
    · obtain ⟨x, hx⟩ : ∃ x, L[k]? = some x := ⟨L[k]'hlt, by simp⟩
      obtain ⟨b1, o1, rfl, c1⟩ := (HE.out.below hbw) (fun e => by rw [e] at hlt; simp at hlt)
      obtain ⟨ua, uc, u1, r1, _, un⟩ := c1 k x hx
      have hxl := HLB.out x (List.mem_of_getElem? hx)
      have hts : L.take (k + 1) = L.take k ++ [x] := by rw [List.take_add_one, hx]; rfl
      have hb1 : b1 < w.heap.size := by
        obtain ⟨b2, o2, e2, c2⟩ := HE.out (fun e => by rw [e] at hlt; simp at hlt)
        cases e2
        obtain ⟨_, _, q, _⟩ := c2 k x hx
        exact cell_lt q
      have j0 : (0 : Int) ≤ (k : Int) := by omega
      have j1 : (k : Int) < (L.length : Int) := by omega
      have hvl := fun b (h : (Value.slice oa k oc).ownBlock = some b) => (s1.lt b h).2
      have HTS := Lib.hid hts
      have HS := Lib.hid (And.intro s2 (And.intro s3 s4))
      have HKL := Lib.hid hkl
      clear c1 hx hts s2 s3 s4 hkl
      go_wp2
      refine wp_region_held_drew (S := fun w' => w'.cell? ⟨b1, o1 + k, none⟩ = some (.slice ua x.length uc)) (by kernel_rfl) (u1) (fun hHeld => ?_)
      refine wpAnyH_take (i := 0) (v := ?_) rfl (by kernel_rfl) (by kernel_rfl) (by kernel_rfl) (fun _ _ _ h => h) (Or.inl ⟨by rfl, ?_⟩) hHeld ?_
      rotate_left
      · intro w hSw; (try dsimp only at hSw); go_simp
        all_goals (with_reducible rfl)
      (try simp only [Act.put, List.setIfInBounds_toArray, List.set_cons_zero, List.set_cons_succ])
      refine wpAnyH_take (i := 2) (v := ?_) rfl (by kernel_rfl) (by kernel_rfl) (by kernel_rfl) (fun _ _ _ h => h) (Or.inl ⟨by rfl, ?_⟩) hHeld ?_
      rotate_left
      · intro w hSw; (try dsimp only at hSw); go_simp
        all_goals (with_reducible rfl)
      (try simp only [Act.put, List.setIfInBounds_toArray, List.set_cons_zero, List.set_cons_succ])
      refine wpAnyH_take (i := 3) (v := ?_) rfl (by kernel_rfl) (by kernel_rfl) (by kernel_rfl) (fun _ _ _ h => h) (Or.inl ⟨by rfl, ?_⟩) hHeld ?_
      rotate_left
      · intro w hSw; (try dsimp only at hSw); go_simp
        all_goals (with_reducible rfl)
      (try simp only [Act.put, List.setIfInBounds_toArray, List.set_cons_zero, List.set_cons_succ])
      refine wpAnyH_take (i := 4) (v := ?_) rfl (by kernel_rfl) (by kernel_rfl) (by kernel_rfl) (fun _ _ _ h => h) (Or.inl ⟨by rfl, ?_⟩) hHeld ?_
      rotate_left
      · intro w hSw; (try dsimp only at hSw); go_simp
        all_goals (with_reducible rfl)
      (try simp only [Act.put, List.setIfInBounds_toArray, List.set_cons_zero, List.set_cons_succ])
      refine wpAnyH_take (i := 5) (v := ?_) rfl (by kernel_rfl) (by kernel_rfl) (by kernel_rfl) (fun _ _ _ h => h) (Or.inl ⟨by rfl, ?_⟩) hHeld ?_
      rotate_left
      · intro w hSw; (try dsimp only at hSw); go_simp
        all_goals (with_reducible rfl)
      (try simp only [Act.put, List.setIfInBounds_toArray, List.set_cons_zero, List.set_cons_succ])
      refine wpAnyH_take (i := 9) (v := ?_) rfl (by kernel_rfl) (by kernel_rfl) (by kernel_rfl) (fun _ _ _ h => h) (Or.inl ⟨by rfl, ?_⟩) hHeld ?_
      rotate_left
      · intro w hSw; (try dsimp only at hSw); go_simp
        all_goals (with_reducible rfl)
      (try simp only [Act.put, List.setIfInBounds_toArray, List.set_cons_zero, List.set_cons_succ])
      refine wpAnyH_take (i := 10) (v := ?_) rfl (by kernel_rfl) (by kernel_rfl) (by kernel_rfl) (fun _ _ _ h => h) (Or.inl ⟨by rfl, ?_⟩) hHeld ?_
      rotate_left
      · intro w hSw; (try dsimp only at hSw); go_simp
        all_goals (with_reducible rfl)
      (try simp only [Act.put, List.setIfInBounds_toArray, List.set_cons_zero, List.set_cons_succ])
      refine wpAnyH_take (i := 11) (v := ?_) rfl (by kernel_rfl) (by kernel_rfl) (by kernel_rfl) (fun _ _ _ h => h) (Or.inl ⟨by rfl, ?_⟩) hHeld ?_
      rotate_left
      · intro w hSw; (try dsimp only at hSw); go_simp
        all_goals (with_reducible rfl)
      (try simp only [Act.put, List.setIfInBounds_toArray, List.set_cons_zero, List.set_cons_succ])
      refine wpAnyH_take (i := 12) (v := ?_) rfl (by kernel_rfl) (by kernel_rfl) (by kernel_rfl) (fun _ _ _ h => h) (Or.inl ⟨by rfl, ?_⟩) hHeld ?_
      rotate_left
      · intro w hSw; (try dsimp only at hSw); go_simp
        all_goals (with_reducible rfl)
      (try simp only [Act.put, List.setIfInBounds_toArray, List.set_cons_zero, List.set_cons_succ])
      refine wpAnyH_take (i := 13) (v := ?_) rfl (by kernel_rfl) (by kernel_rfl) (by kernel_rfl) (fun _ _ _ h => h) (Or.inl ⟨by rfl, ?_⟩) hHeld ?_
      rotate_left
      · intro w hSw; (try dsimp only at hSw); go_simp
        all_goals (with_reducible rfl)
      (try simp only [Act.put, List.setIfInBounds_toArray, List.set_cons_zero, List.set_cons_succ])
      refine wpAnyH_ready (rs := [1, 7]) (by kernel_rfl) (by simp) ?_
      refine AllReadyH.cons rfl (fun K hK => ?_) (AllReadyH.cons rfl (fun K hK => ?_) AllReadyH.nil)
      · go_simp
        have hr1 : World.ownsRow (wr.alloc (.cells #[] 5)).drew 0 5 1 (.slice (some ⟨wr.heap.size, 0, none⟩) 0 0) 0 [] := by have q : World.ownsRow (World.alloc wr (.cells #[] 5)) 0 5 1 (.slice (some ⟨wr.heap.size, 0, none⟩) 0 0) 0 [] := (by simpa using ownsRow_lit wr 0 #[] 5 1 0 (by simp) (by decide) rfl); exact q.drew
        obtain ⟨wA, hwA⟩ : ∃ wA, (wr.alloc (.cells #[] 5)).drew = wA := ⟨_, rfl⟩
        have hbA : Below wr.heap.size wr wA := by rw [← hwA]; exact (below_alloc wr _).drew
        have ucA := (Chg.of_below (O := fun _ => False) hbA).cell u1 (fun h => h)
        rw [hwA] at hr1
        have hleA : wr.heap.size ≤ wA.heap.size := hbA.size
        obtain ⟨gA, hgA⟩ : ∃ gA, wr.heap.size = gA := ⟨_, rfl⟩
        have hgAl : wr.heap.size ≤ gA := by rw [← hgA]; exact Nat.le_refl _
        have hgAu : gA < wA.heap.size := by rw [← hgA, ← hwA]; simp [World.drew]
        have hgAw : wr.heap.size ≤ gA := by rw [← hgA]; exact Nat.le_refl _
        rw [hgA] at hr1
        rw [hwA, hgA]
        clear hwA hgA
        refine hK.out _ _ (ucA) (fun hHeld => ?_)
        clear hK K
        (try simp only [Act.put, List.setIfInBounds_toArray, List.set_cons_zero, List.set_cons_succ])
        refine wpAnyH_ready (rs := [6, 7]) (by kernel_rfl) (by simp) ?_
        refine AllReadyH.cons rfl (fun K hK => ?_) (AllReadyH.cons rfl (fun K hK => ?_) AllReadyH.nil)
        · refine wp_append_segsrc (.tmp 12) (.tmp 16) 26 rfl 0 5 i0 (.int .u8 0) 1 Tryz.underlying26 hi hz0 hz1 hz2 rfl _ 0 [] rfl hr1 ua x.length uc (x.map bv) rfl (by simp) un (r1.below hbA) (by intro u hu; obtain ⟨_, _, rfl⟩ := List.mem_map.1 hu; rfl) (by omega) (by omega) (Nat.zero_le _) ?_
          intro v6 w6 r6 g6
          rw [Nat.zero_add, List.nil_append] at r6
          have hb6 : Below wr.heap.size wr w6 := hbA.trans (g6.1.belowLo6 hleA (fun b e => by cases e; exact hgAl))
          have uc6 := (Chg.of_below (O := fun _ => False) hb6).cell u1 (fun h => h)
          have ho6 : ∀ b, v6.ownBlock = some b → wr.heap.size ≤ b := fun b e => by
            rcases g6.2 with q | ⟨g, q, hge⟩
            · rw [q] at e; cases e; exact hgAl
            · rw [q] at e; cases e; have := hbA.size; omega
          have hle6 : wr.heap.size ≤ w6.heap.size := hb6.size
          refine hK.out _ _ (uc6) (fun hHeld => ?_)
          clear hK K
          (try simp only [Act.put, List.setIfInBounds_toArray, List.set_cons_zero, List.set_cons_succ])
          refine wpAnyH_ready (rs := [7]) (by kernel_rfl) (by simp) ?_
          refine AllReadyH.cons rfl (fun K hK => ?_) AllReadyH.nil
          go_simp
          have mkB : World.cell? (w6.alloc (.cells #[.int .u8 165] 5)) ⟨w6.heap.size, 0, none⟩ = some (.int .u8 165) := cell_new w6 _ _ 0 _ rfl
          obtain ⟨wB, hwB⟩ : ∃ wB, (w6.alloc (.cells #[.int .u8 165] 5)) = wB := ⟨_, rfl⟩
          have hbB : Below wr.heap.size wr wB := by rw [← hwB]; exact (hb6).alloc (hle6) _
          have ucB := (Chg.of_below (O := fun _ => False) hbB).cell u1 (fun h => h)
          have hrB := World.ownsRow.alloc r6 (.cells #[.int .u8 165] 5)
          rw [hwB] at hrB
          rw [hwB] at mkB
          have hleB : wr.heap.size ≤ wB.heap.size := hbB.size
          obtain ⟨gB, hgB⟩ : ∃ gB, w6.heap.size = gB := ⟨_, rfl⟩
          have hgBu : gB < wB.heap.size := by rw [← hgB, ← hwB]; simp [World.drew]
          have hgBw : w6.heap.size ≤ gB := by rw [← hgB]; exact Nat.le_refl _
          rw [hgB] at mkB
          rw [hwB, hgB]
          clear hwB hgB
          refine hK.out _ _ (ucB) (fun hHeld => ?_)
          clear hK K
          (try simp only [Act.put, List.setIfInBounds_toArray, List.set_cons_zero, List.set_cons_succ])
          refine wpAnyH_ready (rs := [8]) (by kernel_rfl) (by simp) ?_
          refine AllReadyH.cons rfl (fun K hK => ?_) AllReadyH.nil
          refine wp_append_seg (.tmp 17) (.tmp 18) 26 rfl 0 5 i0 (.int .u8 0) 1 1 Tryz.underlying26 hi hz0 hz1 hz2 rfl (by decide) _ x.length _ rfl hrB ⟨gB, 0, none⟩ 1 1 [.int .u8 165] rfl rfl (fun j u hu => by cases j with | zero => (simp at hu; subst hu; rw [addr_add]; exact mkB) | succ j => simp at hu) (by simp [Value.oneCell']) (by omega) (by omega) (Nat.zero_le _) ?_
          intro v8 w8 r8 g8
          have hb8 : Below wr.heap.size wr w8 := hbB.trans (g8.1.belowLo6 hleB (fun b e => ho6 b e))
          have uc8 := (Chg.of_below (O := fun _ => False) hb8).cell u1 (fun h => h)
          have ho8 : ∀ b, v8.ownBlock = some b → wr.heap.size ≤ b := fun b e => by
            rcases g8.2 with q | ⟨g, q, hge⟩
            · rw [q] at e; exact ho6 b e
            · rw [q] at e; cases e; have := hbB.size; omega
          obtain ⟨a8, c8, rfl, hc8, _, hat8⟩ := ownsRow_at r8
          obtain ⟨gb, rfl, _⟩ := hat8 x.length (.int .u8 165) (by rw [List.getElem?_append_right (by simp)]; simp)
          have hsl := run_slice_hi (P := Tryz.prog) 26 5 Tryz.underlying26 Tryz.sizeOf5 (some ⟨gb, 0, none⟩) (x.length + 1) c8 x.length (by omega)
          have hle8 : wr.heap.size ≤ w8.heap.size := hb8.size
          refine hK.out _ _ (uc8) (fun hHeld => ?_)
          clear hK K
          (try simp only [Act.put, List.setIfInBounds_toArray, List.set_cons_zero, List.set_cons_succ])
          refine wpAnyH_take (i := 14) (v := ?_) rfl (by kernel_rfl) (by kernel_rfl) (by kernel_rfl) (fun _ _ _ h => h) (Or.inl ⟨by rfl, ?_⟩) hHeld ?_
          rotate_left
          · intro w hSw; (try dsimp only at hSw); go_simp
            all_goals (with_reducible rfl)
          (try simp only [Act.put, List.setIfInBounds_toArray, List.set_cons_zero, List.set_cons_succ])
          refine wpAnyH_ready (rs := [15]) (by kernel_rfl) (by simp) ?_
          refine AllReadyH.cons rfl (fun K hK => ?_) AllReadyH.nil
          go_simp
          obtain ⟨wC, hwC⟩ : ∃ wC, (w8.alloc (.cells #[.slice (some ⟨gb, 0, none⟩) x.length c8] 26)) = wC := ⟨_, rfl⟩
          have hbC8 : Below w8.heap.size w8 wC := by rw [← hwC]; exact below_alloc _ _
          have hbC : Below wr.heap.size wr wC := hb8.trans (hbC8.mono hle8)
          have ucC := (Chg.of_below (O := fun _ => False) hbC).cell u1 (fun h => h)
          have cC : wC.cell? ⟨w8.heap.size, 0, none⟩ = some (.slice (some ⟨gb, 0, none⟩) x.length c8) := by rw [← hwC]; exact cell_new w8 _ _ 0 _ rfl
          have sC := (Chg.of_below (O := fun _ => False) hbC).row s1 (fun _ _ h => h)
          rw [hwC]
          clear hwC
          refine hK.out _ _ (ucC) (fun hHeld => ?_)
          clear hK K
          (try simp only [Act.put, List.setIfInBounds_toArray, List.set_cons_zero, List.set_cons_succ])
          refine wpAnyH_ready (rs := [16]) (by kernel_rfl) (by simp) ?_
          refine AllReadyH.cons rfl (fun K hK => ?_) AllReadyH.nil
          refine wp_append_seg (.tmp 11) (.tmp 26) 22 rfl 0 26 i1 (.slice none 0 0) 1 24 Tryz.underlying22 hi1 hy0 hy1 hy2 rfl (by decide) _ k _ rfl sC ⟨w8.heap.size, 0, none⟩ 1 1 [.slice (some ⟨gb, 0, none⟩) x.length c8] rfl rfl (fun j u hu => by cases j with | zero => (simp at hu; subst hu; rw [addr_add]; exact cC) | succ j => simp at hu) (by simp [Value.oneCell']) (by omega) (by omega) (Nat.zero_le _) ?_
          intro v9 w9 r9 g9
          have uc9 := g9.1.cell ucC (fun e => absurd hb1 (Nat.not_lt.2 (HS.out.1 b1 e)))
          refine hK.out _ _ (uc9) (fun hHeld => ?_)
          clear hK K
          (try simp only [Act.put, List.setIfInBounds_toArray, List.set_cons_zero, List.set_cons_succ])
          refine wpAnyH_take (i := 17) (v := ?_) rfl (by kernel_rfl) (by kernel_rfl) (by kernel_rfl) (fun _ _ _ h => h) (Or.inl ⟨by rfl, ?_⟩) hHeld ?_
          rotate_left
          · intro w hSw; (try dsimp only at hSw); go_simp
            all_goals (with_reducible rfl)
          (try simp only [Act.put, List.setIfInBounds_toArray, List.set_cons_zero, List.set_cons_succ])
          refine wpAnyH_done (by kernel_rfl) ?_ _
          have hf := lent_fin (R := fun b => w.heap.size ≤ b) HS.out s1 HKL.out (fun b h => h) hbw.size hb8 r8 ho8 hbC8 r9 g9
          have HF := Lib.hid hf
          clear hf r9 g9 sC cC ucC uc9
          go_wp2
          go_roundw
          case rel => exact ⟨k + 1, by omega, by go_num, by rw [HTS.out]; exact HF.out.1, hbw.trans (HF.out.2.belowLo6 hbw.size (fun b e => HS.out.1 b e))⟩
          case measure => simp [RowKit.intOf]; omega
        · go_simp
          have mkB : World.cell? (wA.alloc (.cells #[.int .u8 165] 5)) ⟨wA.heap.size, 0, none⟩ = some (.int .u8 165) := cell_new wA _ _ 0 _ rfl
          obtain ⟨wB, hwB⟩ : ∃ wB, (wA.alloc (.cells #[.int .u8 165] 5)) = wB := ⟨_, rfl⟩
          have hbB : Below wr.heap.size wr wB := by rw [← hwB]; exact (hbA).alloc (hleA) _
          have ucB := (Chg.of_below (O := fun _ => False) hbB).cell u1 (fun h => h)
          have hrB := World.ownsRow.alloc hr1 (.cells #[.int .u8 165] 5)
          rw [hwB] at hrB
          rw [hwB] at mkB
          have hleB : wr.heap.size ≤ wB.heap.size := hbB.size
          obtain ⟨gB, hgB⟩ : ∃ gB, wA.heap.size = gB := ⟨_, rfl⟩
          have hgBu : gB < wB.heap.size := by rw [← hgB, ← hwB]; simp [World.drew]
          have hgBw : wA.heap.size ≤ gB := by rw [← hgB]; exact Nat.le_refl _
          rw [hgB] at mkB
          rw [hwB, hgB]
          clear hwB hgB
          refine hK.out _ _ (ucB) (fun hHeld => ?_)
          clear hK K
          (try simp only [Act.put, List.setIfInBounds_toArray, List.set_cons_zero, List.set_cons_succ])
          refine wpAnyH_ready (rs := [6]) (by kernel_rfl) (by simp) ?_
          refine AllReadyH.cons rfl (fun K hK => ?_) AllReadyH.nil
          refine wp_append_segsrc (.tmp 12) (.tmp 16) 26 rfl 0 5 i0 (.int .u8 0) 1 Tryz.underlying26 hi hz0 hz1 hz2 rfl _ 0 [] rfl hrB ua x.length uc (x.map bv) rfl (by simp) un (r1.below hbB) (by intro u hu; obtain ⟨_, _, rfl⟩ := List.mem_map.1 hu; rfl) (by omega) (by omega) (Nat.zero_le _) ?_
          intro v6 w6 r6 g6
          rw [Nat.zero_add, List.nil_append] at r6
          have hb6 : Below wr.heap.size wr w6 := hbB.trans (g6.1.belowLo6 hleB (fun b e => by cases e; exact hgAl))
          have uc6 := (Chg.of_below (O := fun _ => False) hb6).cell u1 (fun h => h)
          have ho6 : ∀ b, v6.ownBlock = some b → wr.heap.size ≤ b := fun b e => by
            rcases g6.2 with q | ⟨g, q, hge⟩
            · rw [q] at e; cases e; exact hgAl
            · rw [q] at e; cases e; have := hbB.size; omega
          have mk6 := g6.1.cell mkB (fun e => by cases e; omega)
          have hle6 : wr.heap.size ≤ w6.heap.size := hb6.size
          refine hK.out _ _ (uc6) (fun hHeld => ?_)
          clear hK K
          (try simp only [Act.put, List.setIfInBounds_toArray, List.set_cons_zero, List.set_cons_succ])
          refine wpAnyH_ready (rs := [8]) (by kernel_rfl) (by simp) ?_
          refine AllReadyH.cons rfl (fun K hK => ?_) AllReadyH.nil
          refine wp_append_seg (.tmp 17) (.tmp 18) 26 rfl 0 5 i0 (.int .u8 0) 1 1 Tryz.underlying26 hi hz0 hz1 hz2 rfl (by decide) _ x.length _ rfl r6 ⟨gB, 0, none⟩ 1 1 [.int .u8 165] rfl rfl (fun j u hu => by cases j with | zero => (simp at hu; subst hu; rw [addr_add]; exact mk6) | succ j => simp at hu) (by simp [Value.oneCell']) (by omega) (by omega) (Nat.zero_le _) ?_
          intro v8 w8 r8 g8
          have hb8 : Below wr.heap.size wr w8 := hb6.trans (g8.1.belowLo6 hle6 (fun b e => ho6 b e))
          have uc8 := (Chg.of_below (O := fun _ => False) hb8).cell u1 (fun h => h)
          have ho8 : ∀ b, v8.ownBlock = some b → wr.heap.size ≤ b := fun b e => by
            rcases g8.2 with q | ⟨g, q, hge⟩
            · rw [q] at e; exact ho6 b e
            · rw [q] at e; cases e; have := hb6.size; omega
          obtain ⟨a8, c8, rfl, hc8, _, hat8⟩ := ownsRow_at r8
          obtain ⟨gb, rfl, _⟩ := hat8 x.length (.int .u8 165) (by rw [List.getElem?_append_right (by simp)]; simp)
          have hsl := run_slice_hi (P := Tryz.prog) 26 5 Tryz.underlying26 Tryz.sizeOf5 (some ⟨gb, 0, none⟩) (x.length + 1) c8 x.length (by omega)
          have hle8 : wr.heap.size ≤ w8.heap.size := hb8.size
          refine hK.out _ _ (uc8) (fun hHeld => ?_)
          clear hK K
          (try simp only [Act.put, List.setIfInBounds_toArray, List.set_cons_zero, List.set_cons_succ])
          refine wpAnyH_take (i := 14) (v := ?_) rfl (by kernel_rfl) (by kernel_rfl) (by kernel_rfl) (fun _ _ _ h => h) (Or.inl ⟨by rfl, ?_⟩) hHeld ?_
          rotate_left
          · intro w hSw; (try dsimp only at hSw); go_simp
            all_goals (with_reducible rfl)
          (try simp only [Act.put, List.setIfInBounds_toArray, List.set_cons_zero, List.set_cons_succ])
          refine wpAnyH_ready (rs := [15]) (by kernel_rfl) (by simp) ?_
          refine AllReadyH.cons rfl (fun K hK => ?_) AllReadyH.nil
          go_simp
          obtain ⟨wC, hwC⟩ : ∃ wC, (w8.alloc (.cells #[.slice (some ⟨gb, 0, none⟩) x.length c8] 26)) = wC := ⟨_, rfl⟩
          have hbC8 : Below w8.heap.size w8 wC := by rw [← hwC]; exact below_alloc _ _
          have hbC : Below wr.heap.size wr wC := hb8.trans (hbC8.mono hle8)
          have ucC := (Chg.of_below (O := fun _ => False) hbC).cell u1 (fun h => h)
          have cC : wC.cell? ⟨w8.heap.size, 0, none⟩ = some (.slice (some ⟨gb, 0, none⟩) x.length c8) := by rw [← hwC]; exact cell_new w8 _ _ 0 _ rfl
          have sC := (Chg.of_below (O := fun _ => False) hbC).row s1 (fun _ _ h => h)
          rw [hwC]
          clear hwC
          refine hK.out _ _ (ucC) (fun hHeld => ?_)
          clear hK K
          (try simp only [Act.put, List.setIfInBounds_toArray, List.set_cons_zero, List.set_cons_succ])
          refine wpAnyH_ready (rs := [16]) (by kernel_rfl) (by simp) ?_
          refine AllReadyH.cons rfl (fun K hK => ?_) AllReadyH.nil
          refine wp_append_seg (.tmp 11) (.tmp 26) 22 rfl 0 26 i1 (.slice none 0 0) 1 24 Tryz.underlying22 hi1 hy0 hy1 hy2 rfl (by decide) _ k _ rfl sC ⟨w8.heap.size, 0, none⟩ 1 1 [.slice (some ⟨gb, 0, none⟩) x.length c8] rfl rfl (fun j u hu => by cases j with | zero => (simp at hu; subst hu; rw [addr_add]; exact cC) | succ j => simp at hu) (by simp [Value.oneCell']) (by omega) (by omega) (Nat.zero_le _) ?_
          intro v9 w9 r9 g9
          have uc9 := g9.1.cell ucC (fun e => absurd hb1 (Nat.not_lt.2 (HS.out.1 b1 e)))
          refine hK.out _ _ (uc9) (fun hHeld => ?_)
          clear hK K
          (try simp only [Act.put, List.setIfInBounds_toArray, List.set_cons_zero, List.set_cons_succ])
          refine wpAnyH_take (i := 17) (v := ?_) rfl (by kernel_rfl) (by kernel_rfl) (by kernel_rfl) (fun _ _ _ h => h) (Or.inl ⟨by rfl, ?_⟩) hHeld ?_
          rotate_left
          · intro w hSw; (try dsimp only at hSw); go_simp
            all_goals (with_reducible rfl)
          (try simp only [Act.put, List.setIfInBounds_toArray, List.set_cons_zero, List.set_cons_succ])
          refine wpAnyH_done (by kernel_rfl) ?_ _
          have hf := lent_fin (R := fun b => w.heap.size ≤ b) HS.out s1 HKL.out (fun b h => h) hbw.size hb8 r8 ho8 hbC8 r9 g9
          have HF := Lib.hid hf
          clear hf r9 g9 sC cC ucC uc9
          go_wp2
          go_roundw
          case rel => exact ⟨k + 1, by omega, by go_num, by rw [HTS.out]; exact HF.out.1, hbw.trans (HF.out.2.belowLo6 hbw.size (fun b e => HS.out.1 b e))⟩
          case measure => simp [RowKit.intOf]; omega
      · go_simp
        have mkB : World.cell? (wr.alloc (.cells #[.int .u8 165] 5)).drew ⟨wr.heap.size, 0, none⟩ = some (.int .u8 165) := cell_new wr _ _ 0 _ rfl
        obtain ⟨wB, hwB⟩ : ∃ wB, (wr.alloc (.cells #[.int .u8 165] 5)).drew = wB := ⟨_, rfl⟩
        have hbB : Below wr.heap.size wr wB := by rw [← hwB]; exact (below_alloc wr _).drew
        have ucB := (Chg.of_below (O := fun _ => False) hbB).cell u1 (fun h => h)
        rw [hwB] at mkB
        have hleB : wr.heap.size ≤ wB.heap.size := hbB.size
        obtain ⟨gB, hgB⟩ : ∃ gB, wr.heap.size = gB := ⟨_, rfl⟩
        have hgBu : gB < wB.heap.size := by rw [← hgB, ← hwB]; simp [World.drew]
        have hgBw : wr.heap.size ≤ gB := by rw [← hgB]; exact Nat.le_refl _
        rw [hgB] at mkB
        rw [hwB, hgB]
        clear hwB hgB
        refine hK.out _ _ (ucB) (fun hHeld => ?_)
        clear hK K
        (try simp only [Act.put, List.setIfInBounds_toArray, List.set_cons_zero, List.set_cons_succ])
        refine wpAnyH_ready (rs := [1]) (by kernel_rfl) (by simp) ?_
        refine AllReadyH.cons rfl (fun K hK => ?_) AllReadyH.nil
        go_simp
        have hr1 : World.ownsRow (wB.alloc (.cells #[] 5)) 0 5 1 (.slice (some ⟨wB.heap.size, 0, none⟩) 0 0) 0 [] := by have q : World.ownsRow (World.alloc wB (.cells #[] 5)) 0 5 1 (.slice (some ⟨wB.heap.size, 0, none⟩) 0 0) 0 [] := (by simpa using ownsRow_lit wB 0 #[] 5 1 0 (by simp) (by decide) rfl); exact q
        obtain ⟨wA, hwA⟩ : ∃ wA, (wB.alloc (.cells #[] 5)) = wA := ⟨_, rfl⟩
        have hbA : Below wr.heap.size wr wA := by rw [← hwA]; exact (hbB).alloc (hleB) _
        have ucA := (Chg.of_below (O := fun _ => False) hbA).cell u1 (fun h => h)
        have mkA : wA.cell? ⟨gB, 0, none⟩ = some (.int .u8 165) := by rw [← hwA]; exact (Below.alloc (Below.refl _ _) (Nat.le_refl _) _).cell (cell_lt mkB) |>.trans mkB
        rw [hwA] at hr1
        have hleA : wr.heap.size ≤ wA.heap.size := hbA.size
        obtain ⟨gA, hgA⟩ : ∃ gA, wB.heap.size = gA := ⟨_, rfl⟩
        have hgAl : wr.heap.size ≤ gA := by rw [← hgA]; exact hleB
        have hgAu : gA < wA.heap.size := by rw [← hgA, ← hwA]; simp [World.drew]
        have hgAw : wB.heap.size ≤ gA := by rw [← hgA]; exact Nat.le_refl _
        rw [hgA] at hr1
        rw [hwA, hgA]
        clear hwA hgA
        refine hK.out _ _ (ucA) (fun hHeld => ?_)
        clear hK K
        (try simp only [Act.put, List.setIfInBounds_toArray, List.set_cons_zero, List.set_cons_succ])
        refine wpAnyH_ready (rs := [6]) (by kernel_rfl) (by simp) ?_
        refine AllReadyH.cons rfl (fun K hK => ?_) AllReadyH.nil
        refine wp_append_segsrc (.tmp 12) (.tmp 16) 26 rfl 0 5 i0 (.int .u8 0) 1 Tryz.underlying26 hi hz0 hz1 hz2 rfl _ 0 [] rfl hr1 ua x.length uc (x.map bv) rfl (by simp) un (r1.below hbA) (by intro u hu; obtain ⟨_, _, rfl⟩ := List.mem_map.1 hu; rfl) (by omega) (by omega) (Nat.zero_le _) ?_
        intro v6 w6 r6 g6
        rw [Nat.zero_add, List.nil_append] at r6
        have hb6 : Below wr.heap.size wr w6 := hbA.trans (g6.1.belowLo6 hleA (fun b e => by cases e; exact hgAl))
        have uc6 := (Chg.of_below (O := fun _ => False) hb6).cell u1 (fun h => h)
        have ho6 : ∀ b, v6.ownBlock = some b → wr.heap.size ≤ b := fun b e => by
          rcases g6.2 with q | ⟨g, q, hge⟩
          · rw [q] at e; cases e; exact hgAl
          · rw [q] at e; cases e; have := hbA.size; omega
        have mk6 := g6.1.cell mkA (fun e => by cases e; omega)
        have hle6 : wr.heap.size ≤ w6.heap.size := hb6.size
        refine hK.out _ _ (uc6) (fun hHeld => ?_)
        clear hK K
        (try simp only [Act.put, List.setIfInBounds_toArray, List.set_cons_zero, List.set_cons_succ])
        refine wpAnyH_ready (rs := [8]) (by kernel_rfl) (by simp) ?_
        refine AllReadyH.cons rfl (fun K hK => ?_) AllReadyH.nil
        refine wp_append_seg (.tmp 17) (.tmp 18) 26 rfl 0 5 i0 (.int .u8 0) 1 1 Tryz.underlying26 hi hz0 hz1 hz2 rfl (by decide) _ x.length _ rfl r6 ⟨gB, 0, none⟩ 1 1 [.int .u8 165] rfl rfl (fun j u hu => by cases j with | zero => (simp at hu; subst hu; rw [addr_add]; exact mk6) | succ j => simp at hu) (by simp [Value.oneCell']) (by omega) (by omega) (Nat.zero_le _) ?_
        intro v8 w8 r8 g8
        have hb8 : Below wr.heap.size wr w8 := hb6.trans (g8.1.belowLo6 hle6 (fun b e => ho6 b e))
        have uc8 := (Chg.of_below (O := fun _ => False) hb8).cell u1 (fun h => h)
        have ho8 : ∀ b, v8.ownBlock = some b → wr.heap.size ≤ b := fun b e => by
          rcases g8.2 with q | ⟨g, q, hge⟩
          · rw [q] at e; exact ho6 b e
          · rw [q] at e; cases e; have := hb6.size; omega
        obtain ⟨a8, c8, rfl, hc8, _, hat8⟩ := ownsRow_at r8
        obtain ⟨gb, rfl, _⟩ := hat8 x.length (.int .u8 165) (by rw [List.getElem?_append_right (by simp)]; simp)
        have hsl := run_slice_hi (P := Tryz.prog) 26 5 Tryz.underlying26 Tryz.sizeOf5 (some ⟨gb, 0, none⟩) (x.length + 1) c8 x.length (by omega)
        have hle8 : wr.heap.size ≤ w8.heap.size := hb8.size
        refine hK.out _ _ (uc8) (fun hHeld => ?_)
        clear hK K
        (try simp only [Act.put, List.setIfInBounds_toArray, List.set_cons_zero, List.set_cons_succ])
        refine wpAnyH_take (i := 14) (v := ?_) rfl (by kernel_rfl) (by kernel_rfl) (by kernel_rfl) (fun _ _ _ h => h) (Or.inl ⟨by rfl, ?_⟩) hHeld ?_
        rotate_left
        · intro w hSw; (try dsimp only at hSw); go_simp
          all_goals (with_reducible rfl)
        (try simp only [Act.put, List.setIfInBounds_toArray, List.set_cons_zero, List.set_cons_succ])
        refine wpAnyH_ready (rs := [15]) (by kernel_rfl) (by simp) ?_
        refine AllReadyH.cons rfl (fun K hK => ?_) AllReadyH.nil
        go_simp
        obtain ⟨wC, hwC⟩ : ∃ wC, (w8.alloc (.cells #[.slice (some ⟨gb, 0, none⟩) x.length c8] 26)) = wC := ⟨_, rfl⟩
        have hbC8 : Below w8.heap.size w8 wC := by rw [← hwC]; exact below_alloc _ _
        have hbC : Below wr.heap.size wr wC := hb8.trans (hbC8.mono hle8)
        have ucC := (Chg.of_below (O := fun _ => False) hbC).cell u1 (fun h => h)
        have cC : wC.cell? ⟨w8.heap.size, 0, none⟩ = some (.slice (some ⟨gb, 0, none⟩) x.length c8) := by rw [← hwC]; exact cell_new w8 _ _ 0 _ rfl
        have sC := (Chg.of_below (O := fun _ => False) hbC).row s1 (fun _ _ h => h)
        rw [hwC]
        clear hwC
        refine hK.out _ _ (ucC) (fun hHeld => ?_)
        clear hK K
        (try simp only [Act.put, List.setIfInBounds_toArray, List.set_cons_zero, List.set_cons_succ])
        refine wpAnyH_ready (rs := [16]) (by kernel_rfl) (by simp) ?_
        refine AllReadyH.cons rfl (fun K hK => ?_) AllReadyH.nil
        refine wp_append_seg (.tmp 11) (.tmp 26) 22 rfl 0 26 i1 (.slice none 0 0) 1 24 Tryz.underlying22 hi1 hy0 hy1 hy2 rfl (by decide) _ k _ rfl sC ⟨w8.heap.size, 0, none⟩ 1 1 [.slice (some ⟨gb, 0, none⟩) x.length c8] rfl rfl (fun j u hu => by cases j with | zero => (simp at hu; subst hu; rw [addr_add]; exact cC) | succ j => simp at hu) (by simp [Value.oneCell']) (by omega) (by omega) (Nat.zero_le _) ?_
        intro v9 w9 r9 g9
        have uc9 := g9.1.cell ucC (fun e => absurd hb1 (Nat.not_lt.2 (HS.out.1 b1 e)))
        refine hK.out _ _ (uc9) (fun hHeld => ?_)
        clear hK K
        (try simp only [Act.put, List.setIfInBounds_toArray, List.set_cons_zero, List.set_cons_succ])
        refine wpAnyH_take (i := 17) (v := ?_) rfl (by kernel_rfl) (by kernel_rfl) (by kernel_rfl) (fun _ _ _ h => h) (Or.inl ⟨by rfl, ?_⟩) hHeld ?_
        rotate_left
        · intro w hSw; (try dsimp only at hSw); go_simp
          all_goals (with_reducible rfl)
        (try simp only [Act.put, List.setIfInBounds_toArray, List.set_cons_zero, List.set_cons_succ])
        refine wpAnyH_done (by kernel_rfl) ?_ _
        have hf := lent_fin (R := fun b => w.heap.size ≤ b) HS.out s1 HKL.out (fun b h => h) hbw.size hb8 r8 ho8 hbC8 r9 g9
        have HF := Lib.hid hf
        clear hf r9 g9 sC cC ucC uc9
        go_wp2
        go_roundw
        case rel => exact ⟨k + 1, by omega, by go_num, by rw [HTS.out]; exact HF.out.1, hbw.trans (HF.out.2.belowLo6 hbw.size (fun b e => HS.out.1 b e))⟩
        case measure => simp [RowKit.intOf]; omega
    · obtain rfl : k = L.length := by omega
      have j1 : ¬ (L.length : Int) < (L.length : Int) := by omega
      rw [List.take_length] at s4
      have HS := Lib.hid (And.intro s2 (And.intro s3 s4))
      clear s2 s3 s4 hlt
      go_wp2_with (at_builtin; refine wpList_append_own_at _ rfl (.tmp 28) (.tmp 30) 22 rfl 0 26 i1 (.slice none 0 0) 1 24 Tryz.underlying22 hi1 hy0 hy1 hy2 rfl (by decide) _ _ _ rfl ((s1.alloc _).alloc _) ⟨wr.heap.size + 1, 0, none⟩ 1 1 [.slice (some ⟨wr.heap.size, 0, none⟩) 1 1] rfl rfl (fun j u hu => by cases j with | zero => (simp at hu; subst hu; rw [addr_add]; have h1 := cell_new (wr.alloc (.cells #[.int .u8 119] 5)) #[.slice (some ⟨wr.heap.size, 0, none⟩) 1 1] 26 0 _ rfl; rwa [World.size_alloc] at h1) | succ j => simp at hu) (by simp [Value.oneCell']) (by omega) (by omega) (Nat.zero_le _) ?_; intro v5 w5 r5 hg5 _ hat5; obtain ⟨a5, c5, rfl, hc5, _, hat⟩ := ownsRow_at r5; have hat9 := hat L.length (.slice (some ⟨wr.heap.size, 0, none⟩) 1 1) (by rw [List.getElem?_append_right (by rw [HS.out.2.1]; exact Nat.le_refl _), HS.out.2.1]; simp); obtain ⟨g5, rfl, _⟩ := hat9; have hsl := run_slice_hi (P := Tryz.prog) 22 26 Tryz.underlying22 Tryz.sizeOf26 (some ⟨g5, 0, none⟩) (L.length + 1) c5 L.length (by omega))
      go_ret
      exact ⟨_, _, rfl, lent_end (R := fun b => w.heap.size ≤ b) s1 HS.out (fun b h => h) hbw.size r5 (Grew.append hg5 hat5), lent_below hbw HS.out.1 hg5⟩

end Go.Proofs.YtlmdpcaikhdenaaGreat
