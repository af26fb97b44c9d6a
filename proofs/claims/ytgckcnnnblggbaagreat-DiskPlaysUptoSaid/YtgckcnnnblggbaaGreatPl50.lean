/- Texts of this claim, one behind the other: RfG, RfH. -/
import Derived.Test.YtgckcnnnblggbaaGreatPl49
set_option linter.unusedSimpArgs false
set_option linter.unusedVariables false
/- A new pair of disks among three. -/
namespace Go.Proofs.YtgckcnnnblggbaaGreat
open Go.RowKit Go.Maps

theorem PairO.isNone' {F G : Nat → Prop} {w : World} {v1 v2 : Option Addr} {o : Option DSt} (h : PairO F G w v1 o v2 o) : v1.isNone = v2.isNone := by
  obtain ⟨_, _, rfl, rfl⟩ | ⟨_, _, p, r, _, _, rfl, rfl, _⟩ := h.cases <;> rfl
/-- as PairO.join2, where blocks of others change between the two -/
theorem PairO.join3 {G O : Nat → Prop} {lo hi : Nat} {w0 w : World} {q1 q2 : Option Addr} {o : Option DSt} (h1 : HalfO G lo w0 q1 o) (hc : Chg O w0 w) (hO : ∀ b, O b → b < lo ∧ ¬ G b) (h2 : HalfR G hi w q2 o) (hG : ∀ b, G b → b < lo) (hlo : lo ≤ w0.heap.size) (hhi : w0.heap.size ≤ hi) :
    ∃ F' G', PairO F' G' w q1 o q2 o ∧ (∀ b, F' b → lo ≤ b ∧ b < w.heap.size) ∧ (∀ b, G' b → (G b ∨ lo ≤ b) ∧ b < w.heap.size) ∧ ∀ b, F' b → ¬ G' b := by
  have hsz := hc.size
  cases o with
  | none =>
    obtain rfl : q1 = none := h1
    obtain rfl : q2 = none := h2
    exact ⟨fun _ => False, fun _ => False, PairO.ofNil _ _ _, fun _ h => h.elim, fun _ h => h.elim, fun _ h => h.elim⟩
  | some s =>
    obtain ⟨p, own, R, rfl, hd, ho, hR⟩ := h1
    obtain ⟨r, R2, rfl, hr, hrl, hR2⟩ := h2
    have hdw : DiskAt w p s own R := by
      obtain ⟨mf, mn, ms, fb, vs, vw, ss, ws, t, k1, rfl⟩ := hd
      exact ⟨mf, mn, ms, fb, vs, vw, ss, ws, t, k1.kept hc (fun b hb h => by
        have h3 := hO b h
        rcases hR b hb with h4 | h4
        · exact h3.2 h4
        · omega) (fun b hb h => by have := (hO b h).1; have := ho b hb; omega), rfl⟩
    have ht : Two (fun b => b ∈ own ∨ b = r) (fun b => R b ∨ R2 b) w p s r s := ⟨own, R, R2, hdw, hr, fun _ => Iff.rfl, fun _ => Iff.rfl, fun hm => (by have := hd.own_lt hm; omega), fun hm => (by have := (hd.shared hm).1; omega), fun b hm hb2 => (by
      have h3 := hd.own_lt hm
      rcases hR2 b hb2 with h | h
      · have := hG b h; have := ho b hm; omega
      · omega)⟩
    refine ⟨_, _, PairO.ofTwo ht, fun b hb => ?_, fun b hb => ?_, ht.lt.2.2.1⟩
    · rcases hb with hb | rfl
      · exact ⟨ho b hb, hdw.own_lt hb⟩
      · exact ⟨by omega, hr.r_lt⟩
    · rcases hb with hb | hb
      · exact ⟨hR b hb, (hdw.shared hb).1⟩
      · exact ⟨(hR2 b hb).imp id (fun h => by omega), hr.lt b hb⟩

def ptrs (l : List (Option Addr)) : Array Value := (l.map Value.pointer).toArray
theorem ptrs_at {l : List (Option Addr)} {i : Nat} {p : Option Addr} (h : l[i]? = some p) : (ptrs l)[i]? = some (.pointer p) := by simp [ptrs, h]
theorem ptrs_set (l : List (Option Addr)) (i : Nat) (p : Option Addr) : (ptrs l).setIfInBounds i (.pointer p) = ptrs (l.set i p) := by
  apply Array.toList_inj.1
  simp [ptrs, List.map_set]
section
variable {lo bt br : Nat} {w w1 w2 : World} {l1 l2 : List (Option Addr)} {os : List (Option DSt)} {F G : Nat → Nat → Prop}
/-- what a call on both disks of one pair makes, takes a pair's place -/
theorem Three.fresh (h : Three lo bt br w l1 l2 os F G) {who dst hi : Nat} {q1 q2 : Option Addr} {o : Option DSt} (hc1 : Chg (fun b => b = bt ∨ b = br) w w2) (h1 : HalfO (G who) w.heap.size w1 q1 o) (hc2 : Chg (fun b => b = bt ∨ b = br) w1 w2) (h2 : HalfR (G who) hi w2 q2 o)
    (h3 : w.heap.size ≤ w1.heap.size) (h4 : w1.heap.size ≤ hi) (hbt : bt < w.heap.size) (hbr : br < w.heap.size) (hlo : lo ≤ w.heap.size) :
    ∃ F' G', Three lo bt br w2 (l1.set dst q1) (l2.set dst q2) (os.set dst o) F' G' := by
  obtain ⟨F', G', hP, hF', hG', hFG⟩ := PairO.join3 h1 hc2 (fun b hb => ⟨by omega, fun hg => by have := h.outG who b hg; omega⟩) h2 (fun b hb => (h.ltG who b hb).2) h3 h4
  exact ⟨_, _, (h.kept hc1 (fun i b hb hO => by have := h.outF i b hb; omega) (fun i b hb hO => by have := h.outG i b hb; omega)).put (k := who) hP
    (fun b hb j => ⟨fun hf => by have := (h.ltF j b hf).2; have := (hF' b hb).1; omega, fun hg => by have := (h.ltG j b hg).2; have := (hF' b hb).1; omega⟩)
    (fun b hb => (hG' b hb).1.imp id (fun hg j hf => by have := (h.ltF j b hf).2; omega)) hFG
    (fun b hb => ⟨⟨by have := (hF' b hb).1; omega, (hF' b hb).2⟩, by have := (hF' b hb).1; omega, by have := (hF' b hb).1; omega⟩)
    (fun b hb => by
      refine ⟨⟨?_, (hG' b hb).2⟩, ?_⟩
      · rcases (hG' b hb).1 with hg | hg
        · exact (h.ltG who b hg).1
        · omega
      · rcases (hG' b hb).1 with hg | hg
        · exact h.outG who b hg
        · exact ⟨by omega, by omega⟩)⟩
end
/-- a number's remainder by 3, from 0 on -/
def placeN (n : Int) : Nat := (n % 3).toNat
theorem placeN_lt (n : Int) : placeN n < 3 := by unfold placeN; omega
set_option maxRecDepth 100000 in
theorem place_any (n : Int) (w : World) (h : -9223372036854775808 ≤ n ∧ n < 9223372036854775808) :
    Calls Tryz.prog 26 #[.int .i64 n] w fun e w' => e = .returned (.int .i64 (placeN n : Int)) ∧ w = w' := by
  have h1 : n.tmod 3 = n % 3 ∨ (n.tmod 3 = n % 3 - 3 ∧ n.tmod 3 < 0) := by
    rcases Int.lt_or_le n 0 with h0 | h0
    · have := Int.tmod_eq_emod (a := n) (b := 3); split at this <;> omega
    · left; exact Int.tmod_eq_emod_of_nonneg h0
  have hv : ((placeN n : Nat) : Int) = n % 3 := by unfold placeN; omega
  have hm := Int.tmod_lt_of_pos n (by decide : (0:Int) < 3)
  have hm2 := Int.lt_tmod_of_pos n (by decide : (0:Int) < 3)
  have HV := Lib.hid hv
  have hp : 0 ≤ n % 3 ∧ n % 3 < 3 := by omega
  by_cases hneg : n.tmod 3 < 0
  · have e1 : n.tmod 3 + 3 = n % 3 := by omega
    have E1 := Lib.hid e1
    clear e1 h1 hv
    have g1 : decide (n.tmod 3 < 0) = true := by simpa using hneg
    go_enter Tryz.func26, Tryz.ntmps26
    go_wp2
    go_ret
    exact ⟨ret_int (by rw [HV.out]; exact E1.out), rfl⟩
  · have e1 : n.tmod 3 = n % 3 := by omega
    have E1 := Lib.hid e1
    clear e1 h1 hv
    have g1 : decide (n.tmod 3 < 0) = false := by simpa using hneg
    go_enter Tryz.func26, Tryz.ntmps26
    go_wp2
    go_ret
    exact ⟨ret_int (by rw [HV.out]; exact E1.out), rfl⟩

end Go.Proofs.YtgckcnnnblggbaaGreat
/- DiskPlays: what the law's loop keeps. -/
namespace Go.Proofs.YtgckcnnnblggbaaGreat
open Go.RowKit Go.Maps

theorem startO_okP {cap : Int} {L : List (List UInt8 × List UInt8)} (hL : ∀ p ∈ L, p.2.length ≤ maxFile) : OkPO (startO cap L) L.length := by
  unfold startO
  split
  · rename_i h
    intro s e
    cases e
    exact DSt.OkP.ofFiles (by unfold maxFile; omega) ⟨h.2.2.1, h.2.2.2, hL⟩
  · exact fun s e => by cases e
/-- new disks side by side: each in two stretches of blocks -/
theorem PairO.join4 {lo hi : Nat} {w0 w : World} {q1 q2 : Option Addr} {o : Option DSt} (h1 : HalfO (fun _ => False) lo w0 q1 o) (hb : Below w0.heap.size w0 w) (h2 : HalfR (fun _ => False) hi w q2 o) (hlo : lo ≤ w0.heap.size) (hhi : w0.heap.size ≤ hi) :
    ∃ F' G', PairO F' G' w q1 o q2 o ∧ (∀ b, F' b ∨ G' b → (lo ≤ b ∧ b < w0.heap.size) ∨ (hi ≤ b ∧ b < w.heap.size)) ∧ ∀ b, F' b → ¬ G' b := by
  have hsz := hb.size
  have h1w := h1.below hb
  cases o with
  | none =>
    obtain rfl : q1 = none := h1
    obtain rfl : q2 = none := h2
    exact ⟨fun _ => False, fun _ => False, PairO.ofNil _ _ _, fun _ h => (h.elim id id).elim, fun _ h => h.elim⟩
  | some s =>
    obtain ⟨p, own, R, rfl, hd, ho, hR⟩ := h1
    obtain ⟨r, R2, rfl, hr, hrl, hR2⟩ := h2
    have hdw : DiskAt w p s own R := by
      obtain ⟨mf, mn, ms, fb, vs, vw, ss, ws, t, k1, rfl⟩ := hd
      exact ⟨mf, mn, ms, fb, vs, vw, ss, ws, t, k1.kept (O := fun _ => False) (Chg.of_below hb) (fun _ _ h => h) (fun _ _ h => h), rfl⟩
    have ht : Two (fun b => b ∈ own ∨ b = r) (fun b => R b ∨ R2 b) w p s r s := ⟨own, R, R2, hdw, hr, fun _ => Iff.rfl, fun _ => Iff.rfl, fun hm => (by have := hd.own_lt hm; omega), fun hm => (by have := (hd.shared hm).1; omega), fun b hm hb2 => (by
      have h3 := hd.own_lt hm
      rcases hR2 b hb2 with h | h
      · exact h
      · omega)⟩
    refine ⟨_, _, PairO.ofTwo ht, fun b hb => ?_, ht.lt.2.2.1⟩
    rcases hb with (hb | rfl) | (hb | hb)
    · exact .inl ⟨ho b hb, hd.own_lt hb⟩
    · exact .inr ⟨hrl, hr.r_lt⟩
    · exact .inl ⟨(hR b hb).resolve_left id, (hd.shared hb).1⟩
    · exact .inr ⟨(hR2 b hb).resolve_left id, hr.lt b hb⟩
theorem three_start {lo bt br : Nat} {w3 w4 w5 w6 : World} {q1 q2 q3 q4 : Option Addr} {o1 o2 : Option DSt} (h1 : HalfO (fun _ => False) lo w3 q1 o1) (h2 : HalfO (fun _ => False) w3.heap.size w4 q2 o2) (h3 : HalfR (fun _ => False) w4.heap.size w5 q3 o1) (h4 : HalfR (fun _ => False) w5.heap.size w6 q4 o2)
    (b34 : Below w3.heap.size w3 w4) (b45 : Below w4.heap.size w4 w5) (b56 : Below w5.heap.size w5 w6) (hlo : lo ≤ w3.heap.size) (hbt : w6.heap.size ≤ bt) (hbr : w6.heap.size ≤ br) :
    (q1.isNone = q3.isNone ∧ q2.isNone = q4.isNone) ∧ ∃ F G, Three lo bt br w6 [q1, q2, none] [q3, q4, none] [o1, o2, none] F G := by
  have s4 := b34.size
  have s5 := b45.size
  have s6 := b56.size
  obtain ⟨F1, G1, hP1, hF1, hn1⟩ := PairO.join4 h1 (b34.trans (b45.mono s4)) h3 hlo s4
  obtain ⟨F2, G2, hP2, hF2, hn2⟩ := PairO.join4 h2 (b45.trans (b56.mono s5)) h4 s4 s5
  have hP1' := hP1.below b56
  refine ⟨⟨hP1.isNone', hP2.isNone'⟩, fun i b => (i = 0 ∧ F1 b) ∨ (i = 1 ∧ F2 b), fun i b => (i = 0 ∧ G1 b) ∨ (i = 1 ∧ G2 b), ?_⟩
  have r1 : ∀ b, F1 b ∨ G1 b → (lo ≤ b ∧ b < w3.heap.size) ∨ (w4.heap.size ≤ b ∧ b < w5.heap.size) := hF1
  have r2 : ∀ b, F2 b ∨ G2 b → (w3.heap.size ≤ b ∧ b < w4.heap.size) ∨ (w5.heap.size ≤ b ∧ b < w6.heap.size) := hF2
  refine ⟨fun i p q o ha hb ho => ?_, fun i b hb => ?_, fun i b hb => ?_, fun i j b hij hb hk => ?_, fun i j b hb hk => ?_, fun i b hb => ?_, fun i b hb => ?_⟩
  · match i, ha, hb, ho with
    | 0, ha, hb, ho =>
      simp only [List.getElem?_cons_zero, Option.some.injEq] at ha hb ho
      subst ha hb ho
      rw [show (fun b => ((0 : Nat) = 0 ∧ F1 b) ∨ ((0 : Nat) = 1 ∧ F2 b)) = F1 by funext b; simp, show (fun b => ((0 : Nat) = 0 ∧ G1 b) ∨ ((0 : Nat) = 1 ∧ G2 b)) = G1 by funext b; simp]
      exact hP1'
    | 1, ha, hb, ho =>
      simp only [List.getElem?_cons_succ, List.getElem?_cons_zero, Option.some.injEq] at ha hb ho
      subst ha hb ho
      rw [show (fun b => ((1 : Nat) = 0 ∧ F1 b) ∨ ((1 : Nat) = 1 ∧ F2 b)) = F2 by funext b; simp, show (fun b => ((1 : Nat) = 0 ∧ G1 b) ∨ ((1 : Nat) = 1 ∧ G2 b)) = G2 by funext b; simp]
      exact hP2
    | 2, ha, hb, ho =>
      simp only [List.getElem?_cons_succ, List.getElem?_cons_zero, Option.some.injEq] at ha hb ho
      subst ha hb ho
      exact PairO.ofNil _ _ _
    | n + 3, ha, _, _ => simp at ha
  · rcases hb with ⟨_, hb⟩ | ⟨_, hb⟩
    · have := r1 b (.inl hb); omega
    · have := r2 b (.inl hb); omega
  · rcases hb with ⟨_, hb⟩ | ⟨_, hb⟩
    · have := r1 b (.inr hb); omega
    · have := r2 b (.inr hb); omega
  · rcases hb with ⟨rfl, hb⟩ | ⟨rfl, hb⟩ <;> rcases hk with ⟨rfl, hk⟩ | ⟨rfl, hk⟩
    · exact hij rfl
    · have := r1 b (.inl hb); have := r2 b (.inl hk); omega
    · have := r2 b (.inl hb); have := r1 b (.inl hk); omega
    · exact hij rfl
  · rcases hb with ⟨_, hb⟩ | ⟨_, hb⟩ <;> rcases hk with ⟨_, hk⟩ | ⟨_, hk⟩
    · exact hn1 b hb hk
    · have := r1 b (.inl hb); have := r2 b (.inr hk); omega
    · have := r2 b (.inl hb); have := r1 b (.inr hk); omega
    · exact hn2 b hb hk
  · rcases hb with ⟨_, hb⟩ | ⟨_, hb⟩
    · have := r1 b (.inl hb); omega
    · have := r2 b (.inl hb); omega
  · rcases hb with ⟨_, hb⟩ | ⟨_, hb⟩
    · have := r1 b (.inr hb); omega
    · have := r2 b (.inr hb); omega

/-- three pairs in two arrays; every disk is bounded -/
def PlaysAt (lo bt br N : Nat) (w : World) : Prop := ∃ l1 l2 os F G, (l1.length = 3 ∧ l2.length = 3 ∧ os.length = 3) ∧ w.heap[bt]? = some (.cells (ptrs l1) 63 (0, 0)) ∧ w.heap[br]? = some (.cells (ptrs l2) 64 (0, 0)) ∧ Three lo bt br w l1 l2 os F G ∧ ∀ (i : Nat) o, os[i]? = some o → OkPO o N
theorem PlaysAt.below {lo bt br N : Nat} {w w' : World} (h : PlaysAt lo bt br N w) (hb : Below w.heap.size w w') : PlaysAt lo bt br N w' := by
  obtain ⟨l1, l2, os, F, G, h0, h1, h2, h3, h4⟩ := h
  exact ⟨l1, l2, os, F, G, h0, (hb.block _ (heap_lt h1)).trans h1, (hb.block _ (heap_lt h2)).trans h2, h3.below hb, h4⟩
section
variable {lo bt br N : Nat} {w w' w1 w2 w3 : World} {l1 l2 : List (Option Addr)} {os : List (Option DSt)} {F G : Nat → Nat → Prop}
theorem PlaysAt.renewed (h0 : l1.length = 3 ∧ l2.length = 3 ∧ os.length = 3) (h : Three lo bt br w l1 l2 os F G) (hok : ∀ (i : Nat) o, os[i]? = some o → OkPO o N) {who dst hi : Nat} {q1 q2 : Option Addr} {o : Option DSt} (ho : OkPO o N)
    (hc1 : Chg (fun b => b = bt ∨ b = br) w w2) (h1 : HalfO (G who) w.heap.size w1 q1 o) (hc2 : Chg (fun b => b = bt ∨ b = br) w1 w2) (h2 : HalfR (G who) hi w2 q2 o)
    (h3 : w.heap.size ≤ w1.heap.size) (h4 : w1.heap.size ≤ hi) (hbt : bt < w.heap.size) (hbr : br < w.heap.size) (hlo : lo ≤ w.heap.size)
    (hc3 : Chg (fun b => b = bt ∨ b = br) w2 w3) (ht : w3.heap[bt]? = some (.cells (ptrs (l1.set dst q1)) 63 (0, 0))) (hr : w3.heap[br]? = some (.cells (ptrs (l2.set dst q2)) 64 (0, 0))) : PlaysAt lo bt br N w3 := by
  obtain ⟨F', G', hT⟩ := h.fresh (dst := dst) hc1 h1 hc2 h2 h3 h4 hbt hbr hlo
  refine ⟨_, _, _, F', G', by simpa using h0, ht, hr, hT.kept hc3 (fun i b hb hO => by have := hT.outF i b hb; omega) (fun i b hb hO => by have := hT.outG i b hb; omega), fun i o' hi => ?_⟩
  by_cases hd : i = dst
  · subst hd
    have hlt := (List.getElem?_eq_some_iff.1 hi).1
    simp at hlt
    rw [List.getElem?_set_self hlt] at hi
    cases hi
    exact ho
  · rw [List.getElem?_set_ne (fun e => hd e.symm)] at hi
    exact hok i o' hi
theorem PlaysAt.asked (h0 : l1.length = 3 ∧ l2.length = 3 ∧ os.length = 3) (h : Three lo bt br w l1 l2 os F G) (hok : ∀ (i : Nat) o, os[i]? = some o → OkPO o N) (hx1 : w.heap[bt]? = some (.cells (ptrs l1) 63 (0, 0))) (hx2 : w.heap[br]? = some (.cells (ptrs l2) 64 (0, 0)))
    {who : Nat} {p q : Option Addr} {o : Option DSt} {x : AStep} (h1 : l1[who]? = some p) (h2 : l2[who]? = some q) (h3 : os[who]? = some o) (hc : Chg (F who) w w') (hlo : lo ≤ w.heap.size)
    {F' G' : Nat → Prop} (hP : PairO F' G' w' p (stepO o x) q (stepO o x)) (hF' : ∀ b, F' b → (F who b ∨ w.heap.size ≤ b) ∧ b < w'.heap.size) (hG' : ∀ b, G' b → (G who b ∨ w.heap.size ≤ b) ∧ b < w'.heap.size) : PlaysAt lo bt br (N + 1) w' := by
  have hT : ∃ F' G', Three lo bt br w' l1 l2 (os.set who (stepO o x)) F' G' := by
    by_cases hn : stepO o x = none
    · rw [hn] at hP ⊢
      obtain ⟨_, _, rfl, rfl⟩ | ⟨_, _, _, _, e, _⟩ := hP.cases
      · exact ⟨_, _, h.does h1 h2 hc (PairO.ofNil (fun _ => False) (fun _ => False) _) (fun _ h => h.elim) (fun _ h => h.elim) (fun _ h => h.elim) hlo (heap_lt hx1) (heap_lt hx2)⟩
      · cases e
    · exact ⟨_, _, h.does h1 h2 hc hP hF' hG' (hP.lt hn).2.2 hlo (heap_lt hx1) (heap_lt hx2)⟩
  obtain ⟨F2, G2, hT⟩ := hT
  refine ⟨l1, l2, _, F2, G2, by simpa using h0, hc.obj hx1 (fun hf => (h.outF who _ hf).1 rfl), hc.obj hx2 (fun hf => (h.outF who _ hf).2 rfl), hT, fun i o' hi => ?_⟩
  by_cases hd : i = who
  · subst hd
    have hlt := (List.getElem?_eq_some_iff.1 hi).1
    simp at hlt
    rw [List.getElem?_set_self hlt] at hi
    cases hi
    exact stepO_okP (hok _ _ h3) x
  · rw [List.getElem?_set_ne (fun e => hd e.symm)] at hi
    exact (hok i o' hi).mono (Nat.le_succ _)
end

end Go.Proofs.YtgckcnnnblggbaaGreat
