/- Texts of this claim, one behind the other: RdC. -/
import Derived.Test.YtgckcnnnblggbaaGreatSt18
import Derived.Test.YtgckcnnnblggbaaGreatSt19
import Derived.Test.YtgckcnnnblggbaaGreatSt09
set_option linter.unusedSimpArgs false
set_option linter.unusedVariables false
/- The document's disk: with, does, copied. -/
namespace Go.Proofs.YtgckcnnnblggbaaGreat
open Go.RowKit Go.Maps

theorem ins_split {x : List UInt8 × Nat} : ∀ {l : NL} {n : Nat}, (∀ j p, j < n → l[j]? = some p → bytesBefore p.1 x.1 = true) → (∀ p, l[n]? = some p → bytesBefore x.1 p.1 = true) → n ≤ l.length → nlIns x l = l.take n ++ [x] ++ l.drop n
  | [], n, _, _, hn => by
    obtain rfl : n = 0 := by simpa using hn
    rfl
  | y :: r, 0, _, h2, _ => by
    unfold nlIns
    rw [h2 y rfl]; rfl
  | y :: r, n + 1, h1, h2, hn => by
    unfold nlIns
    rw [before_asymm (h1 0 y (by omega) rfl)]
    simp only [Bool.false_eq_true, if_false, List.take_succ_cons, List.drop_succ_cons, List.cons_append]
    rw [ins_split (l := r) (n := n) (fun j p hj hp => h1 (j + 1) p (by omega) hp) (fun p hp => h2 p hp) (by simpa using hn)]
theorem flat_take2 : ∀ (l : NL) (n : Nat), ((l.map encN).flatten).take (n * 2) = ((l.take n).map encN).flatten
  | [], n => by simp
  | x :: r, 0 => by simp
  | x :: r, n + 1 => by
    rw [List.map_cons, List.flatten_cons, List.take_succ_cons, List.map_cons, List.flatten_cons, ← flat_take2 r n, show (n + 1) * 2 = n * 2 + 2 from by omega]
    rfl
theorem flat_drop2 : ∀ (l : NL) (n : Nat), ((l.map encN).flatten).drop (n * 2) = ((l.drop n).map encN).flatten
  | [], n => by simp
  | x :: r, 0 => by simp
  | x :: r, n + 1 => by
    rw [List.map_cons, List.flatten_cons, List.drop_succ_cons, ← flat_drop2 r n, show (n + 1) * 2 = n * 2 + 2 from by omega]
    rfl
theorem flat_len2 (l : NL) : ((l.map encN).flatten).length = l.length * 2 := by
  induction l with
  | nil => rfl
  | cons x r ih => rw [List.map_cons, List.flatten_cons, List.length_append, ih]; simp [encN]; omega
theorem one_encN (l : NL) : ∀ u ∈ (l.map encN).flatten, u.oneCell' = true := by
  intro u hu
  obtain ⟨c, hc, hu⟩ := List.mem_flatten.1 hu
  obtain ⟨p, _, rfl⟩ := List.mem_map.1 hc
  simp only [encN, List.mem_cons, List.not_mem_nil, or_false] at hu
  rcases hu with rfl | rfl <;> rfl
/-- names as a slice -/
theorem NamedAt.rowAt {w : World} {lo : Nat} {v : Value} {l : NL} (h : NamedAt w lo v l) : ∃ a c, v = .slice a l.length c ∧ l.length ≤ c ∧ (a = none → c = 0) ∧ RowAt w a ((l.map encN).flatten) := by
  rcases h.2 with ⟨rfl, hz⟩ | ⟨g, cap, cur, rfl, _, hg, h1, _, _, ht⟩
  · obtain rfl := List.length_eq_zero_iff.1 hz
    exact ⟨none, 0, rfl, Nat.le_refl _, fun _ => rfl, RowAt.nil _ _⟩
  · refine ⟨_, cap, rfl, h1, (fun e => by cases e), fun _ => ⟨g, 0, rfl, fun j u hu => ?_⟩⟩
    rw [Nat.zero_add]
    refine cell_of_heap hg ?_
    have : cur.toList[j]? = some u := by
      rw [← ht, List.getElem?_take] at hu
      split at hu
      · exact hu
      · cases hu
    simpa using this

/-- append onto a row of the call's own, elements of k cells -/
theorem wpList_append_anyK {P : Program} (w : World) {ops : Array Oper} {rest : List Oper} {o : Oper} {a : Act} {Q : Exit → Act → World → Prop} (hgd : o.guard = none) (s x : Operand) (t : TypeId)
    (ho : o.op = .call { callee := .builtin .append, args := #[s, x], argTypes := #[t, t] })
    (base : Nat) (e : TypeId) (i : TypeInfo) (z : Value) (size bytes : Nat) (ht : P.underlying t = some (.slice e)) (hi : P.info? e = some i) (hz : i.zero = some z)
    (hsize : i.size = size) (hby : i.bytes = bytes) (hzs : z.cells.size = size) (hsz : 0 < size)
    (v : Value) (n : Nat) (xs : List Value) (hs : a.eval s = v) (hown : w.ownsRow base e size v n xs)
    (sa : Option Addr) (m c : Nat) (news : List Value) (hx : a.eval x = .slice sa m c) (hl : news.length = m * size) (hnil : sa = none → c = 0) (hnews : RowAt w sa news) (h1 : ∀ u ∈ news, u.oneCell' = true)
    (h63 : n + m ≤ maxLen) (hbytes : (n + m) * bytes ≤ 140737488355328) (hbase : base ≤ w.heap.size)
    (h : ∀ v' w', w'.ownsRow base e size v' (n + m) (xs ++ news) → w.grownBy w' v.ownBlock → wpList P ops Q rest (a.put o.dst v') w') : wpList P ops Q (o :: rest) a w := by
  cases sa with
  | none =>
    have hn : news = [] := by
      by_cases hne : news = []
      · exact hne
      · obtain ⟨b, off, e, _⟩ := hnews hne; cases e
    subst hn
    obtain rfl : m = 0 := by
      rcases Nat.mul_eq_zero.1 hl.symm with h | h
      · exact h
      · omega
    obtain rfl : c = 0 := hnil rfl
    refine wpList_append_own_none hgd s x t ho base e i size ht hi v n xs hs hown hx ?_
    exact h v w (by simpa using hown) ⟨rfl, rfl, rfl, Nat.le_refl _, fun _ _ _ => rfl⟩
  | some ad =>
    refine wpList_append_own w hgd s x t ho base e i z size bytes ht hi hz hsize hby hzs hsz v n xs hs hown ad m c news hx hl ?_ h1 h63 hbytes hbase (fun v' w' h2 h3 _ => h v' w' h2 h3)
    intro j u hu
    have hne : news ≠ [] := by intro e; subst e; simp at hu
    obtain ⟨b, off, e, hc⟩ := hnews hne
    cases e
    have := hc j u hu
    rwa [show (⟨b, off, none⟩ : Addr).add j = ⟨b, off + j, none⟩ from by unfold Addr.add; split <;> simp_all]
/-- where x[l:] begins, elements of k cells -/
def subAtK (a : Option Addr) (cap l k : Nat) : Option Addr := if cap = l then a else a.map (·.add (l * k))
theorem run_slice_loKA {P : Program} (t e : TypeId) (k : Nat) (ht : P.underlying t = some (.slice e)) (he : ∀ w, (sizeOf e).run P w = Result.ok k w) (a : Option Addr) (len cap l : Nat) (hl : l ≤ len) (w : World) :
    (Instr.slice t (.slice a len cap) (some (.int .i64 l)) none none).run P w = Result.ok (.slice (subAtK a cap l k) (len - l) (cap - l)) w := by
  have he' : P.elem t = e := by simp [Program.elem, ht]
  rw [run_slice_l (t := t) (ht := by rw [he']; exact ht) (kl := .i64) (h0 := by omega) (h1 := by omega), he', he]
  simp [Result.andThen, sliced, subAtK]
theorem RowAt.dropK {w : World} {a : Option Addr} {xs : List Value} (h : RowAt w a xs) (cap l k : Nat) (hc : xs.length ≤ cap * k) : RowAt w (subAtK a cap l k) (xs.drop (l * k)) := fun hx => by
  have hlt : l * k < xs.length := by
    rcases Nat.lt_or_ge (l * k) xs.length with h | h
    · exact h
    · exact absurd (List.drop_of_length_le h) hx
  obtain ⟨b, off, rfl, hc'⟩ := h (by intro e; subst e; simp at hlt)
  have hne : cap ≠ l := fun e => by subst e; omega
  refine ⟨b, off + l * k, ?_, fun j u hu => ?_⟩
  · unfold subAtK; rw [if_neg hne]
    simp only [Option.map_some, Option.some.injEq]
    unfold Addr.add; split <;> simp_all
  · rw [List.getElem?_drop] at hu
    rw [Nat.add_assoc]; exact hc' _ u hu

set_option maxRecDepth 100000 in
set_option maxHeartbeats 4000000 in
theorem rwith_any {w : World} {lo : Nat} {v : Value} {l : NL} (h : NamedAt w lo v l) (hr : Rising l) (k : List UInt8) (f : Nat) (hl : l.length ≤ 8388608) :
    Calls Tryz.prog 99 #[v, .string ⟨k.toArray⟩, .int .i64 (f : Int)] w fun e w' => ∃ v', e = .returned v' ∧ NamedAt w' w.heap.size v' (nlPut l k f) ∧ Below w.heap.size w w' := by
  have hmax : maxLen = 9223372036854775807 := rfl
  obtain ⟨i0, hi, hz0, hz1, hz2⟩ := info_parts Tryz.info88
  have hW := rwithout_any h k (by omega)
  have hLr := rising_del hr k
  have hLl := nlDel_le l k
  have hLk : ∀ p ∈ nlDel l k, p.1 ≠ k := fun p hp => (mem_nlDel.1 hp).2
  have hput : nlPut l k f = nlIns (k, f) (nlDel l k) := rfl
  have HPUT := Lib.hid hput; clear hput
  obtain ⟨L, hL⟩ : ∃ L, nlDel l k = L := ⟨_, rfl⟩
  rw [hL] at hW hLr hLl hLk HPUT
  clear hL hLr
  have HLK := Lib.hid hLk; clear hLk
  go_enter Tryz.func99, Tryz.ntmps99
  go_wp2_with (go_at_call 100; refine hW.mono ?_; rintro _ w1 ⟨v1, rfl, hN1, hb1⟩; obtain ⟨a, c, rfl, hc1, hc2, hrow⟩ := hN1.rowAt; obtain ⟨_, _, e', hat⟩ := hN1.at_; simp only [Value.slice.injEq] at e'; obtain ⟨rfl, _, rfl⟩ := e'; have HAT := Lib.hid hat; clear hat)
  go_loop [7] (fun i => ∃ n : Nat, n ≤ L.length ∧ i = .int .i64 n ∧ Hid (∀ j p, j < n → L[j]? = some p → bytesBefore p.1 k = true)) (fun i => L.length - (RowKit.intOf i).toNat)
  case atStart => exact ⟨0, by omega, rfl, Lib.hid (fun j p hj => by omega)⟩
  case round =>
    obtain ⟨n, hn, rfl, HA⟩ := hrel
    have hs1 := run_slice_hiK (P := Tryz.prog) 82 88 2 Tryz.underlying82 Tryz.sizeOf88 a L.length c n (by omega)
    have hs2 := run_slice_loKA (P := Tryz.prog) 82 88 2 Tryz.underlying82 Tryz.sizeOf88 a L.length c n (by omega)
    have hfin : (n < L.length ∧ ∃ p, L[n]? = some p ∧ bytesBefore p.1 k = true) ∨ ((n < L.length ∧ ∃ p, L[n]? = some p ∧ bytesBefore p.1 k = false) ∨ n = L.length) := by
      by_cases h1 : n < L.length
      · cases hb : bytesBefore (L[n]'h1).1 k
        · exact .inr (.inl ⟨h1, _, by simp, hb⟩)
        · exact .inl ⟨h1, _, by simp, hb⟩
      · exact .inr (.inr (by omega))
    have j0 : (0 : Int) ≤ (n : Int) := by omega
    rcases hfin with ⟨hlt, p, hp, hbb⟩ | hend
    · obtain ⟨g, rfl, q0, q1⟩ := HAT.out n p hp
      have j1 : (n : Int) < (L.length : Int) := by omega
      have hls := less_eq p.1 k
      rw [hbb] at hls
      have HB := Lib.hid hbb; clear hbb
      have HP := Lib.hid hp; clear hp
      clear hs1 hs2
      go_wp2
      go_round
      case rel => exact ⟨n + 1, by omega, by go_num, Lib.hid (fun j q hj hq => by
        by_cases h1 : j = n
        · subst h1; rw [HP.out] at hq; rw [← Option.some.inj hq]; exact HB.out
        · exact HA.out j q (by omega) hq)⟩
      case measure => simp [RowKit.intOf]; omega
    · have hsplit : nlPut l k f = L.take n ++ [(k, f)] ++ L.drop n := by
        rw [HPUT.out]
        refine ins_split HA.out (fun p hp => ?_) hn
        rcases hend with ⟨_, q, hq, hb⟩ | rfl
        · rw [hq] at hp
          obtain rfl := Option.some.inj hp
          rcases WideAt.bytes_total k q.1 (fun e => HLK.out q (List.mem_of_getElem? hq) e.symm) with h3 | h3
          · exact h3
          · rw [h3] at hb; cases hb
        · simp at hp
      have HS := Lib.hid hsplit; clear hsplit
      have ht1 : ((L.take n).map encN).flatten.length = n * 2 := by rw [flat_len2, List.length_take, Nat.min_eq_left hn]
      have ht2 : ((L.drop n).map encN).flatten.length = (L.length - n) * 2 := by rw [flat_len2, List.length_drop]
      have hr1 : RowAt w1 a ((L.take n).map encN).flatten := by rw [← flat_take2]; exact hrow.take _
      have hr2 : RowAt w1 (subAtK a c n 2) ((L.drop n).map encN).flatten := by rw [← flat_drop2]; exact hrow.dropK c n 2 (by rw [flat_len2]; omega)
      have hcn : subAtK a c n 2 = none → c - n = 0 := by
        unfold subAtK
        split
        · intro h; have := hc2 h; omega
        · intro h; cases a
          · have := hc2 rfl; omega
          · cases h
      have HT1 := Lib.hid ht1; clear ht1
      have HT2 := Lib.hid ht2; clear ht2
      have HR1 := Lib.hid hr1; clear hr1
      have HR2 := Lib.hid hr2; clear hr2
      have HCN := Lib.hid hcn; clear hcn
      have hsz1 := hb1.size
      have hv : ∀ (v' : Value) (W : World), W.ownsRow w1.heap.size 88 2 v' (n + 1 + (L.length - n)) ((((L.take n).map encN).flatten ++ [.string ⟨k.toArray⟩, .int .i64 (f : Int)]) ++ ((L.drop n).map encN).flatten) → NamedAt W w.heap.size v' (nlPut l k f) := fun v' W h => by
        rw [HS.out]
        unfold NamedAt
        have e1 : (L.take n ++ [(k, f)] ++ L.drop n).length = n + 1 + (L.length - n) := by simp; omega
        rw [e1, List.map_append, List.map_append, List.flatten_append, List.flatten_append]
        exact ownsRow_base_le h hsz1
      have HV := Lib.hid hv; clear hv
      rcases hend with ⟨hlt, q, hq, hb⟩ | hE
      · obtain ⟨g, rfl, q0, q1⟩ := HAT.out n q hq
        have j1 : (n : Int) < (L.length : Int) := by omega
        have hls := less_eq q.1 k
        rw [hb] at hls
        clear hb hq
        go_wp2_with (first
          | (at_builtin; refine wpList_append_anyK _ rfl (.const (.slice none 0 0)) (.tmp 29) 82 rfl w1.heap.size 88 i0 (.agg #[.string ⟨#[]⟩, .int .i64 0]) 2 24 Tryz.underlying82 hi hz0 hz1 hz2 rfl (by decide) (.slice none 0 0) 0 [] rfl (World.ownsRow_nil _ _ _ _) _ n c _ rfl HT1.out hc2 HR1.out (one_encN _) (by omega) (by omega) (by omega) ?_; intro v2 w2 hv2 hg2; rw [Nat.zero_add, List.nil_append] at hv2; have hb2 := (Below.refl w1.heap.size w1).grown hg2 (Nat.le_refl _) (fun r e => by cases e); have hsz2 := hb2.size)
          | (at_builtin; refine wpList_append_anyK _ rfl (.tmp 31) (.tmp 35) 82 rfl w1.heap.size 88 i0 (.agg #[.string ⟨#[]⟩, .int .i64 0]) 2 24 Tryz.underlying82 hi hz0 hz1 hz2 rfl (by decide) v2 n _ rfl (World.ownsRow.alloc hv2 _) (some ⟨w2.heap.size, 0, none⟩) 1 1 [.string ⟨k.toArray⟩, .int .i64 (f : Int)] rfl rfl (fun h => by cases h) (RowAt.of_row (fun j u hu => cell_new w2 _ _ j u (by simpa using hu))) (by simp [Value.oneCell']) (by omega) (by omega) (by rw [World.size_alloc]; omega) ?_; intro v3 w3 hv3 hg3; have hb3 := (hb2.alloc hsz2 (.cells #[.string ⟨k.toArray⟩, .int .i64 (f : Int)] 88)).grown hg3 (by rw [World.size_alloc]; omega) (fun r e => (hv2.lt r e).1); have hsz3 := hb3.size)
          | (at_builtin; refine wpList_append_anyK _ rfl (.tmp 37) (.tmp 40) 82 rfl w1.heap.size 88 i0 (.agg #[.string ⟨#[]⟩, .int .i64 0]) 2 24 Tryz.underlying82 hi hz0 hz1 hz2 rfl (by decide) v3 (n + 1) _ rfl hv3 _ (L.length - n) (c - n) _ rfl HT2.out HCN.out (HR2.out.below hb3) (one_encN _) (by omega) (by omega) (by omega) ?_; intro v4 w4 hv4 hg4; have hb4 := hb3.grown hg4 hsz3 (fun r e => (hv3.lt r e).1)))
        go_ret
        exact ⟨_, rfl, HV.out _ _ hv4, bthen hb1 hb4⟩
      · have j1 : ¬ (n : Int) < (L.length : Int) := by omega
        clear hE
        go_wp2_with (first
          | (at_builtin; refine wpList_append_anyK _ rfl (.const (.slice none 0 0)) (.tmp 29) 82 rfl w1.heap.size 88 i0 (.agg #[.string ⟨#[]⟩, .int .i64 0]) 2 24 Tryz.underlying82 hi hz0 hz1 hz2 rfl (by decide) (.slice none 0 0) 0 [] rfl (World.ownsRow_nil _ _ _ _) _ n c _ rfl HT1.out hc2 HR1.out (one_encN _) (by omega) (by omega) (by omega) ?_; intro v2 w2 hv2 hg2; rw [Nat.zero_add, List.nil_append] at hv2; have hb2 := (Below.refl w1.heap.size w1).grown hg2 (Nat.le_refl _) (fun r e => by cases e); have hsz2 := hb2.size)
          | (at_builtin; refine wpList_append_anyK _ rfl (.tmp 31) (.tmp 35) 82 rfl w1.heap.size 88 i0 (.agg #[.string ⟨#[]⟩, .int .i64 0]) 2 24 Tryz.underlying82 hi hz0 hz1 hz2 rfl (by decide) v2 n _ rfl (World.ownsRow.alloc hv2 _) (some ⟨w2.heap.size, 0, none⟩) 1 1 [.string ⟨k.toArray⟩, .int .i64 (f : Int)] rfl rfl (fun h => by cases h) (RowAt.of_row (fun j u hu => cell_new w2 _ _ j u (by simpa using hu))) (by simp [Value.oneCell']) (by omega) (by omega) (by rw [World.size_alloc]; omega) ?_; intro v3 w3 hv3 hg3; have hb3 := (hb2.alloc hsz2 (.cells #[.string ⟨k.toArray⟩, .int .i64 (f : Int)] 88)).grown hg3 (by rw [World.size_alloc]; omega) (fun r e => (hv2.lt r e).1); have hsz3 := hb3.size)
          | (at_builtin; refine wpList_append_anyK _ rfl (.tmp 37) (.tmp 40) 82 rfl w1.heap.size 88 i0 (.agg #[.string ⟨#[]⟩, .int .i64 0]) 2 24 Tryz.underlying82 hi hz0 hz1 hz2 rfl (by decide) v3 (n + 1) _ rfl hv3 _ (L.length - n) (c - n) _ rfl HT2.out HCN.out (HR2.out.below hb3) (one_encN _) (by omega) (by omega) (by omega) ?_; intro v4 w4 hv4 hg4; have hb4 := hb3.grown hg4 hsz3 (fun r e => (hv3.lt r e).1)))
        go_ret
        exact ⟨_, rfl, HV.out _ _ hv4, bthen hb1 hb4⟩

end Go.Proofs.YtgckcnnnblggbaaGreat
