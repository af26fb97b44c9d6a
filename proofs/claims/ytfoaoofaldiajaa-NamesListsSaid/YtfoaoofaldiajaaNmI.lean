/- Walks of the names layer: the iterator that Each answers. -/
import Derived.Test.YtfoaoofaldiajaaNmE
import Derived.RangeFuncNested
import Derived.RangeFuncBound
import Derived.RangeFuncCalls
import Derived.RangeFuncLeaves
import Derived.Shelf.Abstract
import Derived.Shelf.RegionOpen
import Derived.OwnWalkIn
import Derived.TacticsInMore
import Derived.LoopNIn
import Derived.LoopIn
import Derived.Maps.OwnIn
namespace Go.Proofs.Ytfoaoofaldiajaa
open Go.RowKit Go.Maps Go.Shelf
attribute [local go_sem] Oper.semAt_some

theorem ownsMap_block {P : Program} {k : TypeId} {R : Value → Option (DataW Unit × List MemPlace)} {w w' : World} {b n : Nat} {D : DataW Unit} (h : w.ownsMap P k R b n D) (e : w'.heap[b]? = w.heap[b]?) : w'.ownsMap P k R b n D := by
  obtain ⟨es, clock, hb, F, hs, hD⟩ := h
  exact ⟨es, clock, e.trans hb, F, hs, hD⟩

/-- the closure's data are there still -/
theorem EachAt.kp {kind : Int} {L : List (List UInt8)} {ns : List Int} {lo hi : Nat} {w w' : World} {b5 b3 b6 : Nat} {v : Value} {a : Option Addr} {cap mb nn : Nat} {D : DataW Unit}
    (h : EachAt kind L ns lo hi w b5 b3 b6 v a cap mb nn D) (hk : KpIn lo hi w w') :
    Boxed w' b5 24 v ∧ Boxed w' b3 22 (.slice a L.length cap) ∧ Boxed w' b6 52 (.map (some mb)) ∧ (∃ sa sc, v = .slice sa ns.length sc ∧ RowAt w' sa (ns.map (Value.int .i64))) ∧ RowAt w' a (L.map sv) ∧
      w'.ownsMap Try.prog 2 (plainElem Try.prog 3) mb nn D := by
  refine ⟨(hk.2 b5 h.lo5 h.hi5).trans h.box5, (hk.2 b3 h.lo3 h.hi3).trans h.box3, (hk.2 b6 h.lo6 h.hi6).trans h.box6, ?_, ?_, ownsMap_block h.map (hk.2 mb h.lom h.him)⟩
  · obtain ⟨sa, sc, rfl, hr, _⟩ := RowAt.of_owns h.row
    refine ⟨sa, sc, rfl, hr.kept fun b hb ⟨off, sp, e⟩ => ?_⟩
    subst e
    exact hk.2 b (h.row.lt b rfl).1 (h.hir b rfl)
  · exact h.names.kept fun b hb ⟨off, sp, e⟩ => hk.2 b (h.loa b off sp e) (h.hia b off sp e)
theorem ownsRow_block {w w' : World} {base : Nat} {e : TypeId} {size : Nat} {v : Value} {n : Nat} {xs : List Value} (h : w.ownsRow base e size v n xs) (hk : ∀ g, v.ownBlock = some g → w'.heap[g]? = w.heap[g]?) : w'.ownsRow base e size v n xs := by
  obtain ⟨h1, h2⟩ := h
  refine ⟨h1, h2.imp id ?_⟩
  rintro ⟨g, cap, cur, rfl, h3, h4, h5⟩
  exact ⟨g, cap, cur, rfl, h3, (hk g rfl).trans h4, h5⟩
/-- .. and so it is at any later world -/
theorem EachAt.mono {kind : Int} {L : List (List UInt8)} {ns : List Int} {lo hi : Nat} {w w' : World} {b5 b3 b6 : Nat} {v : Value} {a : Option Addr} {cap mb nn : Nat} {D : DataW Unit}
    (h : EachAt kind L ns lo hi w b5 b3 b6 v a cap mb nn D) (hk : KpIn lo hi w w') : EachAt kind L ns lo hi w' b5 b3 b6 v a cap mb nn D := by
  obtain ⟨k5, k3, k6, _, kn, km⟩ := h.kp hk
  exact { h with
    box5 := k5, box3 := k3, box6 := k6, names := kn, map := km,
    row := ownsRow_block h.row fun g hg => hk.2 g (h.row.lt g hg).1 (h.hir g hg),
    size := Nat.le_trans h.size hk.1 }

def itemOf (kind : Int) (x : Int) : Int × List UInt8 := (x, refNameL kind x.toNat)
def encs2 (x : Int × List UInt8) : Array Value := #[.int .i64 x.1, sv x.2]
def itemsOf (kind : Int) (ns : List Int) : List (Int × List UInt8) := ns.map (itemOf kind)

set_option maxRecDepth 100000 in
set_option maxHeartbeats 1000000 in
theorem Each1_stops (F : Fence) (n : Nat) (hF : F.fn 24) (hro : F.round = none) (hn : 1 ≤ n) (kind : Int) (L : List (List UInt8)) (ns : List Int) (lo hi b5 b3 b6 : Nat) (v : Value) (a : Option Addr) (cap mb nn : Nat) (D : DataW Unit) (w : World)
    (hE : EachAt kind L ns lo hi w b5 b3 b6 v a cap mb nn D) (hL : L.length ≤ 1000000000) (hns : ns.length ≤ 1000000000) :
    SeqStopsK F n Try.prog 24 #[.pointer (some ⟨b5, 0, none⟩), .pointer (some ⟨b3, 0, none⟩), .pointer (some ⟨b6, 0, none⟩)] encs2 (KpIn lo hi) (fun xs => xs = itemsOf kind ns) (fun pre => pre <+: itemsOf kind ns) ns.length w := by
  intro l J Jx W hW hJ hJx hY h0
  refine callsIn_of_wp Try.func24 rfl hF ?_ hro
  simp only [Try.ntmps24, List.size_toArray, List.length_cons, List.length_nil, Nat.reduceAdd, Nat.reduceSub, Array.replicate_succ, Array.replicate_zero, List.push_toArray, List.append_toArray, List.nil_append, List.cons_append]
  have hW0 : KpIn lo hi w W := KpIn.of_below (hW.mono hE.size)
  obtain ⟨k5, _, _, ⟨sa, sc, hv, _⟩, _, _⟩ := hE.kp hW0
  have h5 := k5.cell
  subst hv
  have HY := Lib.hid hY; clear hY
  gi_wp2
  gi_loopw [9] (fun i wr => ∃ k : Nat, k ≤ ns.length ∧ i = .int .i64 k ∧ J ((itemsOf kind ns).take k) wr ∧ KpIn lo hi w wr) (fun i _ => ns.length - (RowKit.intOf i).toNat)
  case atStart => exact ⟨0, by omega, rfl, by simpa using h0, hW0⟩
  case round =>
    obtain ⟨k, hk, rfl, hJs, hkp⟩ := hrel
    obtain ⟨r5, r3, r6, ⟨sa', sc', hv', hrow⟩, hnames, hmap⟩ := hE.kp hkp
    simp only [Value.slice.injEq] at hv'
    obtain ⟨rfl, _, rfl⟩ := hv'
    have c3 := r3.cell
    have c6 := r6.cell
    by_cases hlt : k < ns.length
    · obtain ⟨gb, go, rfl, hcx⟩ := hrow.at_ (k := k) (by simpa using hlt)
      simp only [List.getElem_map] at hcx
      obtain ⟨j, hj, hat, hp1, hp2⟩ := hE.leads ns[k] (List.getElem_mem hlt) (.lit (.int .i64 0))
      obtain ⟨nb, no, rfl, hcn⟩ := hnames.at_ (k := j) (by simpa using hj)
      simp only [List.getElem_map] at hcn
      have hkind := ((hE.num.2 ns[k]).1 (List.getElem_mem hlt)).1
      have hx : L[j] = refNameL kind ns[k].toNat := by
        have h1 := parse_inv (l := L[j]) (k := (parse L[j]).1) (n := (parse L[j]).2) (by omega) rfl
        rw [hp1] at h1
        rw [← hp2]; simpa using h1
      have hwf : -9223372036854775808 ≤ ns[k] ∧ ns[k] ≤ 9223372036854775807 := by have := parse_num L[j]; omega
      rw [hx] at hcn
      obtain ⟨fn, tmps, assign, body, hy, hR⟩ := HY.out _ (itemOf kind ns[k]) wr hJs (by simp [itemsOf]; omega)
      have hstep : (itemsOf kind ns).take k ++ [itemOf kind ns[k]] = (itemsOf kind ns).take (k + 1) := by
        rw [List.take_succ_eq_append_getElem (by simpa [itemsOf] using hlt)]; simp [itemsOf]
      rw [hstep] at hR
      simp only [encs2, itemOf, sv] at hy hcn
      generalize ns[k] = x at *
      generalize (refNameL kind x.toNat).toArray = nm at *
      have HST := Lib.hid hstep; clear hstep hx hp1 hp2
      have HAT := Lib.hid hat; clear hat
      gi_wp2_with (gi_at_lookup; refine wpListIn_lookup_own_int _ rfl _ _ 52 rfl 2 3 .i64 (Maps.int_keyed Try.underlying2) Try.underlying52 Try.underlying3 (Try.zeroValue3 _) mb nn D rfl hmap _ _ rfl (Maps.keyOf_int_mk Try.underlying2 (wf_i64 hwf.1 hwf.2)) ?_; intro c hat' hwc; obtain rfl : c = (j : Int) := by (have e := hat'.symm.trans HAT.out; simpa using e))
      refine hR.mono ?_
      rintro e W3 (⟨rfl, hJ3, hk3⟩ | ⟨rfl, hJx3⟩)
      · gi_wp2
        go_roundw
        case rel => exact ⟨k + 1, by omega, by go_num, hJ3, hkp.trans hk3⟩
        case measure => simp [RowKit.intOf]; omega
      · gi_wp2
        exact bodyPost_ret (results_none rfl _ _ _) rfl ⟨⟨_, rfl⟩, .inr ⟨_, List.take_prefix _ _, hJx3⟩⟩
    · obtain rfl : k = ns.length := by omega
      gi_wp2
      go_end0
      exact ⟨⟨_, rfl⟩, .inl ⟨_, rfl, by rwa [List.take_of_length_le (by simp [itemsOf])] at hJs⟩⟩

end Go.Proofs.Ytfoaoofaldiajaa
