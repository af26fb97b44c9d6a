/- Texts of this claim, one behind the other: IbC, IbD. -/
import Derived.Test.YtljobojdcnhecaaFm08
import Derived.Test.YtljobojdcnhecaaFm11
import Derived.WideKeyEntry
import Derived.Test.YtljobojdcnhecaaFm10
set_option linter.unusedSimpArgs false
set_option linter.unusedVariables false
namespace Go.Proofs.Ytljobojdcnhecaa
/- Find: the map from hashes to numbers, in memory. -/
open Go.RowKit Go.Maps Go.MapKept
open Go.ChangeMaps (setBlock heap_setBlock_same heap_setBlock_other modify_eq_set)

def iv (n : Nat) : Value := .int .i64 (n : Int)
theorem iv_one {l : List Nat} : ∀ u ∈ l.map iv, u.oneCell' = true := fun u hu => by obtain ⟨_, _, rfl⟩ := List.mem_map.1 hu; rfl
theorem bv_inj {a b : UInt8} (h : bv a = bv b) : a = b := by
  unfold bv at h
  injection h with _ h
  exact UInt8.toNat_inj.1 (by omega)
theorem bvs_inj : ∀ {x y : List UInt8}, x.map bv = y.map bv → x = y
  | [], [], _ => rfl
  | [], _ :: _, h => by simp at h
  | _ :: _, [], h => by simp at h
  | a :: x, b :: y, h => by
    simp only [List.map_cons, List.cons.injEq] at h
    rw [bv_inj h.1, bvs_inj h.2]
theorem hashV_inj {x y : List UInt8} (h : hashV x = hashV y) : x = y := by
  unfold hashV at h
  injection h with h
  exact bvs_inj (by simpa using h)
/-- the numbers of a hash, in a row -/
abbrev RowI (w : World) (v : Value) (l : List Nat) : Prop := w.ownsRow 0 3 1 v l.length (l.map iv)
/-- the map from hashes to numbers: its rows' blocks are F's -/
structure ByIn (F : Nat → Prop) (w : World) (es : Array MapEntry) (clock : Nat) (H : List (List UInt8)) : Prop where
  stamped : Stamped es clock
  row : ∀ e ∈ es.toList, ∃ h, h.length = 32 ∧ e.key = hashV h ∧ likes H h ≠ [] ∧ RowI w e.val (likes H h) ∧ ∀ b, e.val.ownBlock = some b → F b
  all : ∀ h, h.length = 32 → likes H h ≠ [] → ∃ e ∈ es.toList, e.key = hashV h
  apart : ∀ e ∈ es.toList, ∀ e' ∈ es.toList, e.key ≠ e'.key → e.val.ownBlock ≠ e'.val.ownBlock
def ByAt (F : Nat → Prop) (w : World) (bm : Nat) (H : List (List UInt8)) : Prop := ∃ es clock, w.heap[bm]? = some (.map es clock) ∧ ByIn F w es clock H
theorem ByIn.made (F : Nat → Prop) (w : World) : ByIn F w #[] 0 [] := ⟨stamped_empty 0, fun e he => by simp at he, fun h _ hne => absurd rfl hne, fun e he => by simp at he⟩
theorem ByIn.kept {F F' O : Nat → Prop} {w w' : World} {es : Array MapEntry} {clock : Nat} {H : List (List UInt8)} (h : ByIn F w es clock H) (hc : Chg O w w') (hO : ∀ b, F b → ¬ O b) (hF : ∀ b, F b → F' b) : ByIn F' w' es clock H :=
  ⟨h.stamped, fun e he => by
    obtain ⟨l, h1, h2, h3, h4, h5⟩ := h.row e he
    exact ⟨l, h1, h2, h3, hc.row h4 (fun k hk => hO k (h5 k hk)), fun b hb => hF b (h5 b hb)⟩, h.all, h.apart⟩
/-- what the map holds at a hash -/
theorem ByIn.look {F : Nat → Prop} {w : World} {es : Array MapEntry} {clock bm : Nat} {H : List (List UInt8)} (hb : ByIn F w es clock H) {h : List UInt8} (hl : h.length = 32) :
    ∃ v, RowI w v (likes H h) ∧ (∀ b, v.ownBlock = some b → F b) ∧ ∀ W : World, W.heap[bm]? = some (.map es clock) → (Instr.lookup 56 (.map (some bm)) (hashV h) false).run Try.prog W = .ok v W := by
  have hk : ∀ e ∈ es.toList, ∃ l, keyOf Try.prog 33 e.key = some l := fun e he => by
    obtain ⟨l, h1, h2, _⟩ := hb.row e he
    exact ⟨_, h2 ▸ hash_key h1⟩
  have hz : ∀ W : World, (zeroValue 41).run Try.prog W = .ok (.slice none 0 0) W := fun W => by kernel_rfl
  rcases hashKeyed.find w (hash_key hl) es.toList hk with ⟨h1, h2⟩ | ⟨j, e, h1, h2, h3⟩
  · have h0 : likes H h = [] := by
      by_cases e : likes H h = []
      · exact e
      · obtain ⟨x, hx, hx2⟩ := hb.all h hl e
        exact absurd hx2 (h2 x hx)
    refine ⟨.slice none 0 0, by rw [h0]; exact World.ownsRow_nil _ _ _ _, fun b hb => (by cases hb), fun W hW => ?_⟩
    rcases hashKeyed.find W (hash_key hl) es.toList hk with ⟨k1, k2⟩ | ⟨j, e, k1, k2, k3⟩
    · simp [Instr.lookup, run_underlying Try.underlying56, MapKept.run_getObj_map hW, hashKeyed.check W _ (hash_key hl), k1, hz, Result.andThen]
    · exact absurd k3 (h2 e (List.mem_of_getElem? k2))
  · obtain ⟨l, l1, l2, l3, l4, l5⟩ := hb.row e (List.mem_of_getElem? h2)
    obtain rfl : l = h := hashV_inj (l2.symm.trans h3)
    refine ⟨e.val, l4, l5, fun W hW => ?_⟩
    rcases hashKeyed.find W (hash_key hl) es.toList hk with ⟨k1, k2⟩ | ⟨j', e', k1, k2, k3⟩
    · exact absurd h3 (k2 e (List.mem_of_getElem? h2))
    · have hne : e' = e := by
        have hn := hb.stamped.2.2
        have hpw := (List.pairwise_map.1 hn)
        obtain ⟨a1, a2⟩ := List.getElem?_eq_some_iff.1 h2
        obtain ⟨b1, b2⟩ := List.getElem?_eq_some_iff.1 k2
        rcases Nat.lt_trichotomy j j' with hlt | rfl | hlt
        · have := List.pairwise_iff_getElem.1 hpw j j' a1 b1 hlt
          rw [a2, b2] at this
          exact absurd (h3.trans k3.symm) this
        · rw [← a2, ← b2]
        · have := List.pairwise_iff_getElem.1 hpw j' j b1 a1 hlt
          rw [a2, b2] at this
          exact absurd (k3.trans h3.symm) this
      subst hne
      simp [Instr.lookup, run_underlying Try.underlying56, MapKept.run_getObj_map hW, hashKeyed.check W _ (hash_key hl), k1, Result.andThen]
/-- an entry's value is read, and another one stored there -/
theorem ByIn.entry {F : Nat → Prop} {w : World} {es : Array MapEntry} {clock bm : Nat} {H : List (List UInt8)} (hb : ByIn F w es clock H) {h : List UInt8} (hl : h.length = 32) :
    ∃ (v : Value) (st : Nat) (es1 : Array MapEntry) (clock1 : Nat), RowI w v (likes H h) ∧ (∀ b, v.ownBlock = some b → F b) ∧ (∀ e ∈ es.toList, e.key ≠ hashV h → ∀ b, v.ownBlock = some b → e.val.ownBlock ≠ some b) ∧
      (∀ W : World, W.heap[bm]? = some (.map es clock) → (Instr.mapEntry 56 (.map (some bm)) (hashV h)).run Try.prog W = .ok (.tuple #[v, .int .i64 (st : Int)]) (setBlock W bm (.map es1 clock1))) ∧
      ∀ val : Value, ∃ es' clock', Stamped es' clock' ∧ (∀ x ∈ es'.toList, (x ∈ es.toList ∧ x.key ≠ hashV h) ∨ (x.key = hashV h ∧ x.val = val)) ∧ (∀ x ∈ es.toList, x.key ≠ hashV h → x ∈ es'.toList) ∧ (∃ x ∈ es'.toList, x.key = hashV h) ∧
        ∀ W : World, W.heap[bm]? = some (.map es1 clock1) → (Instr.entryStore 56 (.map (some bm)) (.int .i64 (st : Int)) val).run Try.prog W = .ok () (setBlock W bm (.map es' clock')) := by
  have hk : ∀ e ∈ es.toList, ∃ l, keyOf Try.prog 33 e.key = some l := fun e he => by
    obtain ⟨l, h1, h2, _⟩ := hb.row e he
    exact ⟨_, h2 ▸ hash_key h1⟩
  have hz : ∀ W : World, (zeroValue 41).run Try.prog W = .ok (.slice none 0 0) W := fun W => by kernel_rfl
  obtain ⟨s1, s2, s3⟩ := hb.stamped
  rcases hashKeyed.find w (hash_key hl) es.toList hk with ⟨h1, h2⟩ | ⟨j, e, h1, h2, h3⟩
  · have h0 : likes H h = [] := by
      by_cases e : likes H h = []
      · exact e
      · obtain ⟨x, hx, hx2⟩ := hb.all h hl e
        exact absurd hx2 (h2 x hx)
    refine ⟨.slice none 0 0, clock, es.push ⟨hashV h, .slice none 0 0, clock⟩, clock + 1, by rw [h0]; exact World.ownsRow_nil _ _ _ _, fun b hb => (by cases hb), fun e he hne b hb => (by cases hb), fun W hW => ?_, fun val => ⟨es.push ⟨hashV h, val, clock⟩, clock + 1, stamped_push hb.stamped h2, fun x hx => ?_, fun x hx _ => by simp [Array.mem_toList_iff.1 hx], ⟨⟨hashV h, val, clock⟩, by simp, rfl⟩, fun W hW => ?_⟩⟩
    · rcases hashKeyed.find W (hash_key hl) es.toList hk with ⟨k1, k2⟩ | ⟨j, e, k1, k2, k3⟩
      · simp [Instr.mapEntry, run_underlying Try.underlying56, MapKept.run_getObj_map hW, hashKeyed.check W false (hash_key hl), k1, hz, MapKept.run_setObj_map _ hW, Result.andThen, setBlock, goInt]
      · exact absurd k3 (h2 e (List.mem_of_getElem? k2))
    · rw [Array.toList_push, List.mem_append] at hx
      rcases hx with hx | hx
      · exact Or.inl ⟨hx, h2 x hx⟩
      · obtain rfl := by simpa using hx
        exact Or.inr ⟨rfl, rfl⟩
    · have hidx : (es.push ⟨hashV h, .slice none 0 0, clock⟩).findIdx? (fun e => ((e.born : Nat) : Int) == ((clock : Nat) : Int)) = some es.size := by
        rw [WideElems.findIdx_arr]
        have := WideElems.findIdx_born (l := (es.push ⟨hashV h, .slice none 0 0, clock⟩).toList) (j := es.size) (e0 := ⟨hashV h, .slice none 0 0, clock⟩) (by
          simp only [Array.toList_push, List.map_append, List.map_cons, List.map_nil]
          refine List.nodup_append.2 ⟨s2, by simp, fun a ha c hc e1 => ?_⟩
          simp only [List.mem_singleton] at hc
          obtain ⟨x, hx, rfl⟩ := List.mem_map.1 ha
          have := s1 x hx
          omega) (by simp)
        exact this
      have hmod : (es.push ⟨hashV h, .slice none 0 0, clock⟩).modify es.size (fun e => { e with val := val }) = es.push ⟨hashV h, val, clock⟩ := by
        apply Array.ext'
        rw [Array.toList_modify, Array.toList_push, Array.toList_push, ← Array.length_toList, WideElems.modify_last]
      simp [Instr.entryStore, MapKept.run_getObj_map hW, asInt, asIntOf, hidx, hmod, MapKept.run_setObj_map _ hW, Result.andThen, setBlock]
  · have hj : es[j]? = some e := by simpa using h2
    have hm := List.mem_of_getElem? h2
    obtain ⟨l, l1, l2, l3, l4, l5⟩ := hb.row e hm
    obtain rfl : l = h := hashV_inj (l2.symm.trans h3)
    have hone : ∀ (i : Nat) (x : MapEntry), es.toList[i]? = some x → x.key = hashV l → i = j := fun i x hi hx => by
      have hpw := (List.pairwise_map.1 s3)
      obtain ⟨a1, a2⟩ := List.getElem?_eq_some_iff.1 h2
      obtain ⟨b1, b2⟩ := List.getElem?_eq_some_iff.1 hi
      rcases Nat.lt_trichotomy i j with hlt | rfl | hlt
      · have := List.pairwise_iff_getElem.1 hpw i j b1 a1 hlt
        rw [a2, b2] at this
        exact absurd (hx.trans h3.symm) this
      · rfl
      · have := List.pairwise_iff_getElem.1 hpw j i a1 b1 hlt
        rw [a2, b2] at this
        exact absurd (h3.trans hx.symm) this
    have hsame : es.modify j (fun x => { x with key := hashV l }) = es := by
      apply Array.ext'
      rw [Array.toList_modify, modify_eq_set _ _ _ _ h2]
      have : ({ e with key := hashV l } : MapEntry) = e := by rw [← h3]
      rw [this]
      exact WideElems.set_self _ _ _ h2
    have hmem : ∀ (val : Value) (x : MapEntry), x ∈ (es.modify j fun e => { e with val := val }).toList ↔ ((x ∈ es.toList ∧ x.key ≠ hashV l) ∨ x = { e with val := val }) := fun val x => by
      rw [Array.toList_modify, modify_eq_set _ _ _ _ h2, List.mem_iff_getElem?]
      constructor
      · rintro ⟨i, hi⟩
        rw [List.getElem?_set] at hi
        split at hi
        · split at hi
          · exact Or.inr (Option.some.inj hi).symm
          · cases hi
        · rename_i hne
          exact Or.inl ⟨List.mem_of_getElem? hi, fun hx => hne (hone i x hi hx).symm⟩
      · rintro (⟨h4, h5⟩ | rfl)
        · obtain ⟨i, hi⟩ := List.mem_iff_getElem?.1 h4
          refine ⟨i, ?_⟩
          rw [List.getElem?_set, if_neg, hi]
          rintro rfl
          rw [h2] at hi
          cases hi
          exact h5 h3
        · refine ⟨j, ?_⟩
          rw [List.getElem?_set, if_pos rfl, if_pos (List.getElem?_eq_some_iff.1 h2).1]
    refine ⟨e.val, e.born, es, clock, l4, l5, fun e' he' hne b hb' hb'' => hb.apart e' he' e hm (fun hh => hne (hh.trans h3)) (hb''.trans hb'.symm), fun W hW => ?_, fun val => ⟨es.modify j fun e => { e with val := val }, clock, stamped_modify hb.stamped _ _ (fun _ _ => rfl) (fun _ _ _ => rfl), fun x hx => ?_, fun x hx hne => (hmem val x).2 (Or.inl ⟨hx, hne⟩), ⟨_, (hmem val _).2 (Or.inr rfl), h3⟩, fun W hW => ?_⟩⟩
    · rcases hashKeyed.find W (hash_key hl) es.toList hk with ⟨k1, k2⟩ | ⟨j', e', k1, k2, k3⟩
      · exact absurd h3 (k2 e hm)
      · obtain rfl := hone j' e' k2 k3
        rw [h2] at k2
        cases k2
        simp [Instr.mapEntry, run_underlying Try.underlying56, MapKept.run_getObj_map hW, hashKeyed.check W false (hash_key hl), k1, hj, h3, hashKeyed.stays W (hash_key hl), hsame, MapKept.run_setObj_map _ hW, Result.andThen, setBlock, goInt]
    · rcases (hmem val x).1 hx with h4 | rfl
      · exact Or.inl h4
      · exact Or.inr ⟨h3, rfl⟩
    · have hidx : es.findIdx? (fun x => ((x.born : Nat) : Int) == ((e.born : Nat) : Int)) = some j := by
        rw [WideElems.findIdx_arr]
        exact WideElems.findIdx_born s2 h2
      simp [Instr.entryStore, MapKept.run_getObj_map hW, asInt, asIntOf, hidx, MapKept.run_setObj_map _ hW, Result.andThen, setBlock]
/-- one more number at a hash -/
theorem ByIn.grown {F F' : Nat → Prop} {w w' : World} {es es' : Array MapEntry} {clock clock' : Nat} {H : List (List UInt8)} (hb : ByIn F w es clock H) {h : List UInt8} (hl : h.length = 32) {val : Value}
    (hs : Stamped es' clock') (h1 : ∀ x ∈ es'.toList, (x ∈ es.toList ∧ x.key ≠ hashV h) ∨ (x.key = hashV h ∧ x.val = val)) (h2 : ∀ x ∈ es.toList, x.key ≠ hashV h → x ∈ es'.toList) (h3 : ∃ x ∈ es'.toList, x.key = hashV h)
    (hold : ∀ x ∈ es.toList, x.key ≠ hashV h → ∀ l, RowI w x.val l → RowI w' x.val l) (hv : RowI w' val (likes H h ++ [H.length])) (hF : ∀ b, F b → F' b) (hvF : ∀ b, val.ownBlock = some b → F' b)
    (hap : ∀ x ∈ es.toList, x.key ≠ hashV h → x.val.ownBlock ≠ val.ownBlock) : ByIn F' w' es' clock' (H ++ [h]) := by
  have hlk : ∀ l, l ≠ h → likes (H ++ [h]) l = likes H l := fun l hne => by rw [likes_push, if_neg (Ne.symm hne), List.append_nil]
  have hlh : likes (H ++ [h]) h = likes H h ++ [H.length] := by rw [likes_push, if_pos rfl]
  refine ⟨hs, fun x hx => ?_, fun l h32 hne => ?_, fun x hx y hy hne => ?_⟩
  · rcases h1 x hx with ⟨h4, h5⟩ | ⟨h4, h5⟩
    · obtain ⟨l, l1, l2, l3, l4, l5⟩ := hb.row x h4
      have hlne : l ≠ h := fun e => h5 (e ▸ l2)
      exact ⟨l, l1, l2, by rw [hlk l hlne]; exact l3, by rw [hlk l hlne]; exact hold x h4 h5 _ l4, fun b hb' => hF b (l5 b hb')⟩
    · exact ⟨h, hl, h4, by rw [hlh]; simp, by rw [hlh, h5]; exact hv, fun b hb' => hvF b (h5 ▸ hb')⟩
  · by_cases e : l = h
    · subst e; exact h3
    · rw [hlk l e] at hne
      obtain ⟨x, hx, hx2⟩ := hb.all l h32 hne
      exact ⟨x, h2 x hx (fun h' => e (hashV_inj (hx2.symm.trans h'))), hx2⟩
  · rcases h1 x hx with ⟨h4, h5⟩ | ⟨h4, h5⟩ <;> rcases h1 y hy with ⟨k4, k5⟩ | ⟨k4, k5⟩
    · exact hb.apart x h4 y k4 hne
    · rw [k5]; exact hap x h4 h5
    · rw [h5]; exact (hap y k4 k5).symm
    · exact absurd (h4.trans k4.symm) hne

/- Find: bytes and entries in memory; an index in memory. -/

/-! ### rows -/
theorem ownsRow_ty {w : World} {base size n : Nat} {e : TypeId} {v : Value} {xs : List Value} (h : w.ownsRow base e size v n xs) {b : Nat} (hb : v.ownBlock = some b) : ∃ cs fr, w.heap[b]? = some (.cells cs e fr) := by
  rcases h.2 with ⟨rfl, _⟩ | ⟨g, cap, cur, rfl, _, hg, _⟩
  · cases hb
  · cases hb; exact ⟨cur, _, hg⟩
theorem ty_apart {w : World} {v x : Value} {e e' : TypeId} {s s' n m lo lo' : Nat} {xs ys : List Value} (h1 : w.ownsRow lo e s v n xs) (h2 : w.ownsRow lo' e' s' x m ys) (hne : e ≠ e') {b : Nat} (hb : v.ownBlock = some b) (hx : x.ownBlock = some b) : False := by
  obtain ⟨cs, fr, e1⟩ := ownsRow_ty h1 hb
  obtain ⟨cs', fr', e2⟩ := ownsRow_ty h2 hx
  rw [e1] at e2
  simp only [Option.some.injEq, Obj.cells.injEq] at e2
  exact hne e2.2.1
theorem row_lo {w : World} {lo : Nat} {e : TypeId} {size : Nat} {v : Value} {n : Nat} {xs : List Value} (h : w.ownsRow lo e size v n xs) : w.ownsRow 0 e size v n xs := by
  refine ⟨h.1, h.2.imp id ?_⟩
  rintro ⟨g, cap, cur, rfl, h3, h4, h5⟩
  exact ⟨g, cap, cur, rfl, Nat.zero_le _, h4, h5⟩
theorem row_slice2 {w : World} {lo : Nat} {e : TypeId} {size : Nat} {v : Value} {n : Nat} {xs : List Value} (h : w.ownsRow lo e size v n xs) : ∃ a c, v = .slice a n c ∧ n ≤ c ∧ (a = none → c = 0) ∧ RowAt w a xs ∧ (∀ x, a = some x → x = ⟨x.block, 0, none⟩ ∧ v.ownBlock = some x.block ∧ x.block < w.heap.size) := by
  rcases h.2 with ⟨rfl, rfl⟩ | ⟨g, cap, cur, rfl, _, hg, h1, _, _, ht⟩
  · have := h.1
    simp at this
    subst this
    exact ⟨none, 0, rfl, Nat.le_refl _, fun _ => rfl, RowAt.nil _ _, fun x e => by cases e⟩
  · refine ⟨_, cap, rfl, h1, (fun e => by cases e), RowAt.of_row (fun i u hu => cell_of_heap hg ?_), fun x e => by cases e; exact ⟨rfl, rfl, heap_lt hg⟩⟩
    have : cur.toList[i]? = some u := by
      rw [← ht, List.getElem?_take] at hu
      split at hu
      · exact hu
      · cases hu
    simpa using this
theorem row_blk {w : World} {lo : Nat} {e : TypeId} {size : Nat} {v : Value} {n : Nat} {xs : List Value} (h : w.ownsRow lo e size v n xs) {b : Nat} (hb : v.ownBlock = some b) : lo ≤ b ∧ b < w.heap.size := by
  rcases h.2 with ⟨rfl, rfl⟩ | ⟨g, cap, cur, rfl, h0, hg, h1, _, _, ht⟩
  · cases hb
  · cases hb; exact ⟨h0, heap_lt hg⟩
/-- bytes: their block is one of R's -/
def BytesR (R : Nat → Prop) (w : World) (v : Value) (l : List UInt8) : Prop := w.ownsRow 0 5 1 v l.length (l.map bv) ∧ ∀ b, v.ownBlock = some b → R b
theorem BytesR.kept {R R' O : Nat → Prop} {w w' : World} {v : Value} {l : List UInt8} (h : BytesR R w v l) (hc : Chg O w w') (hO : ∀ b, v.ownBlock = some b → ¬ O b) (hR : ∀ b, b < w.heap.size → R b → R' b) : BytesR R' w' v l :=
  ⟨hc.row h.1 (fun k hk => hO k hk), fun b hb => hR b (row_blk h.1 hb).2 (h.2 b hb)⟩
/-- entries as they are read, in blocks of R -/
def EntsR (R : Nat → Prop) (w : World) (a : Option Addr) (L : List (List UInt8)) : Prop := L ≠ [] → ∃ b off, a = some ⟨b, off, none⟩ ∧ R b ∧ b < w.heap.size ∧ ∀ (i : Nat) d, L[i]? = some d →
  ∃ ua uc, w.cell? ⟨b, off + i, none⟩ = some (.slice ua d.length uc) ∧ RowAt w ua (d.map bv) ∧ d.length ≤ uc ∧ (ua = none → uc = 0) ∧ ∀ x, ua = some x → d ≠ [] → R x.block ∧ x.block < w.heap.size
theorem EntsR.kept {R R' O : Nat → Prop} {w w' : World} {a : Option Addr} {L : List (List UInt8)} (h : EntsR R w a L) (hc : Chg O w w') (hO : ∀ b, b < w.heap.size → R b → ¬ O b) (hR : ∀ b, b < w.heap.size → R b → R' b) : EntsR R' w' a L := fun hL => by
  obtain ⟨b, off, e, h1, h2, h3⟩ := h hL
  refine ⟨b, off, e, hR b h2 h1, Nat.lt_of_lt_of_le h2 hc.size, fun i d hd => ?_⟩
  obtain ⟨ua, uc, k1, k2, k3, k4, k5⟩ := h3 i d hd
  refine ⟨ua, uc, hc.cell k1 (hO b h2 h1), fun hne => k2.kept (fun b' hb' ⟨o', s', e'⟩ => ?_) hne, k3, k4, fun x e' hne => ⟨hR _ (k5 x e' hne).2 (k5 x e' hne).1, Nat.lt_of_lt_of_le (k5 x e' hne).2 hc.size⟩⟩
  have := k5 _ e' (fun e0 => hne (by rw [e0]; rfl))
  exact hc.block b' hb' (hO b' this.2 this.1)
theorem EntsR.below {R : Nat → Prop} {w w' : World} {a : Option Addr} {L : List (List UInt8)} (h : EntsR R w a L) (hb : Below w.heap.size w w') : EntsR R w' a L := h.kept (O := fun _ => False) (Chg.of_below hb) (fun _ _ _ h => h) (fun _ _ h => h)
/-- entries whose row is owned -/
def EntRow (RB : Nat → Prop) (w : World) (v : Value) (L : List (List UInt8)) : Prop := ∃ vs, w.ownsRow 0 30 1 v L.length vs ∧ vs.length = L.length ∧ ∀ (i : Nat) x l, vs[i]? = some x → L[i]? = some l → BytesR RB w x l
theorem EntRow.nil (R : Nat → Prop) (w : World) : EntRow R w (.slice none 0 0) [] := ⟨[], World.ownsRow_nil _ _ _ _, rfl, fun i x l h => by simp at h⟩
theorem EntRow.kept {R R' O : Nat → Prop} {w w' : World} {v : Value} {L : List (List UInt8)} (h : EntRow R w v L) (hc : Chg O w w') (hv : ∀ b, v.ownBlock = some b → ¬ O b) (hO : ∀ b cs fr, w.heap[b]? = some (.cells cs 5 fr) → R b → ¬ O b) (hR : ∀ b, b < w.heap.size → R b → R' b) : EntRow R' w' v L := by
  obtain ⟨vs, h1, h3, h4⟩ := h
  refine ⟨vs, hc.row h1 hv, h3, fun i x l hx hl => (h4 i x l hx hl).kept hc (fun b hb => ?_) hR⟩
  obtain ⟨cs, fr, hty⟩ := ownsRow_ty (h4 i x l hx hl).1 hb
  exact hO b cs fr hty ((h4 i x l hx hl).2 b hb)
theorem EntRow.read {R : Nat → Prop} {w : World} {v : Value} {L : List (List UInt8)} (h : EntRow R w v L) : ∃ a c, v = .slice a L.length c ∧ L.length ≤ c ∧ (a = none → c = 0) ∧ EntsR (fun b => R b ∨ v.ownBlock = some b) w a L := by
  obtain ⟨vs, h1, h3, h4⟩ := h
  obtain ⟨a, c, rfl, hc, hnil, hr, ho⟩ := row_slice2 h1
  refine ⟨a, c, rfl, hc, hnil, fun hL => ?_⟩
  obtain ⟨b, off, rfl, hcell⟩ := hr (fun e => hL (by rw [e] at h3; exact List.length_eq_zero_iff.1 h3.symm))
  obtain ⟨o1, o2, o3⟩ := ho _ rfl
  refine ⟨b, off, rfl, Or.inr o2, o3, fun i d hd => ?_⟩
  have hi : i < vs.length := by rw [h3]; exact (List.getElem?_eq_some_iff.1 hd).1
  have hv : vs[i]? = some vs[i] := by simp
  have hB := h4 i _ d hv hd
  obtain ⟨ua, uc, e, k1, k2, k3, k4⟩ := row_slice2 hB.1
  exact ⟨ua, uc, by rw [hcell i _ hv, e], k3, k1, k2, fun x hx _ => ⟨Or.inl (hB.2 _ (k4 x hx).2.1), (k4 x hx).2.2⟩⟩

/-! ### what an append does -/
/-- from v to v' : v's own block and new ones alone -/
def Grew (v : Value) (w : World) (v' : Value) (w' : World) : Prop := Chg (fun b => v.ownBlock = some b) w w' ∧ (v'.ownBlock = v.ownBlock ∨ ∃ g, v'.ownBlock = some g ∧ w.heap.size ≤ g)
theorem wp_append_seg {P : Program} {w : World} {o : Oper} {a : Act} {K : Act → World → Prop} {Q : Exit → Act → World → Prop} (s x : Operand) (t : TypeId)
    (ho : o.op = .call { callee := .builtin .append, args := #[s, x], argTypes := #[t, t] })
    (base : Nat) (e : TypeId) (i : TypeInfo) (z : Value) (size bytes : Nat) (ht : P.underlying t = some (.slice e)) (hi : P.info? e = some i) (hz : i.zero = some z)
    (hsize : i.size = size) (hby : i.bytes = bytes) (hzs : z.cells.size = size) (hsz : 0 < size)
    (v : Value) (n : Nat) (xs : List Value) (hs : a.eval s = v) (hown : w.ownsRow base e size v n xs)
    (ad : Addr) (m c : Nat) (news : List Value) (hx : a.eval x = .slice (some ad) m c) (hl : news.length = m * size) (hnews : ∀ j u, news[j]? = some u → w.cell? (ad.add j) = some u) (h1 : ∀ u ∈ news, u.oneCell' = true)
    (h63 : n + m ≤ maxLen) (hbytes : (n + m) * bytes ≤ 140737488355328) (hbase : base ≤ w.heap.size)
    (h : ∀ v' w', w'.ownsRow base e size v' (n + m) (xs ++ news) → Grew v w v' w' → K (a.put o.dst v') w') : o.wp P a w K Q := by
  obtain ⟨v', w', hr, h2, h3, _, h5⟩ := run_append_own_at (P := P) w base t o.type e i z size bytes ht hi hz hsize hby hzs hsz v n xs hown ad m c news hl hnews h1 h63 hbytes hbase
  unfold Oper.wp execOp
  simp only [ho, resolve, invoke, builtin, Sem.run_bind, Sem.run_pure, Result.andThen_ok, List.map_toArray, List.map_cons, List.map_nil, hs, hx, hr]
  exact h v' w' h2 (⟨Chg.of_grown h3 (fun _ e _ => e), h5.imp id (fun e => ⟨_, e, Nat.le_refl _⟩)⟩)

/-! ### an index in memory -/
structure XRaw (F G : Nat → Prop) (w : World) (bx : Nat) (ve vo vm : Value) (E : List (List UInt8)) (H H' : List (List UInt8)) : Prop where
  cell : w.heap[bx]? = some (.cells #[ve, vo, vm] 58 (0, 0))
  own : F bx
  ents : EntRow G w ve E
  entsF : ∀ b, ve.ownBlock = some b → F b
  order : w.ownsRow 0 62 33 vo H.length ((ordN H).flatMap fc)
  orderG : ∀ b, vo.ownBlock = some b → G b
  by_ : (vm = .map none ∧ H' = []) ∨ ∃ bm es clock, vm = .map (some bm) ∧ F bm ∧ w.heap[bm]? = some (.map es clock) ∧ ByIn F w es clock H'
def XAt (F G : Nat → Prop) (w : World) (bx : Nat) (E : List (List UInt8)) : Prop := ∃ ve vo vm, XRaw F G w bx ve vo vm E (E.map leaf) (E.map leaf)
theorem XRaw.kept {F F' G G' O : Nat → Prop} {w w' : World} {bx : Nat} {ve vo vm : Value} {E H H' : List (List UInt8)} (h : XRaw F G w bx ve vo vm E H H') (hc : Chg O w w') (hO : ∀ b, b < w.heap.size → F b ∨ G b → ¬ O b) (hF : ∀ b, b < w.heap.size → F b → F' b) (hG : ∀ b, b < w.heap.size → G b → G' b) : XRaw F' G' w' bx ve vo vm E H H' := by
  obtain ⟨h1, h2, h3, h4, h5, h6, h7⟩ := h
  have hbl : ∀ {e : TypeId} {s n : Nat} {v : Value} {xs : List Value}, w.ownsRow 0 e s v n xs → ∀ b, v.ownBlock = some b → b < w.heap.size := fun h b hb => (row_blk h hb).2
  have hr1 : ∀ b, ve.ownBlock = some b → b < w.heap.size := by obtain ⟨vs, k1, _⟩ := h3; exact hbl k1
  refine ⟨hc.obj h1 (hO bx (heap_lt h1) (Or.inl h2)), hF bx (heap_lt h1) h2, h3.kept hc (fun b hb => hO b (hr1 b hb) (Or.inl (h4 b hb))) (fun b cs fr hb hg => hO b (heap_lt hb) (Or.inr hg)) hG, fun b hb => hF b (hr1 b hb) (h4 b hb), hc.row h5 (fun b hb => hO b (hbl h5 b hb) (Or.inr (h6 b hb))), fun b hb => hG b (hbl h5 b hb) (h6 b hb), ?_⟩
  rcases h7 with h7 | ⟨bm, es, clock, k1, k2, k3, k4⟩
  · exact Or.inl h7
  · refine Or.inr ⟨bm, es, clock, k1, hF bm (heap_lt k3) k2, hc.obj k3 (hO bm (heap_lt k3) (Or.inl k2)), k4.stamped, fun e he => ?_, k4.all, k4.apart⟩
    obtain ⟨l, l1, l2, l3, l4, l5⟩ := k4.row e he
    exact ⟨l, l1, l2, l3, hc.row l4 (fun b hb => hO b (hbl l4 b hb) (Or.inl (l5 b hb))), fun b hb => hF b (hbl l4 b hb) (l5 b hb)⟩
theorem XAt.kept {F F' G G' O : Nat → Prop} {w w' : World} {bx : Nat} {E : List (List UInt8)} (h : XAt F G w bx E) (hc : Chg O w w') (hO : ∀ b, b < w.heap.size → F b ∨ G b → ¬ O b) (hF : ∀ b, b < w.heap.size → F b → F' b) (hG : ∀ b, b < w.heap.size → G b → G' b) : XAt F' G' w' bx E := by
  obtain ⟨ve, vo, vm, h⟩ := h
  exact ⟨ve, vo, vm, h.kept hc hO hF hG⟩
theorem XRaw.below {F G : Nat → Prop} {w w' : World} {bx : Nat} {ve vo vm : Value} {E H H' : List (List UInt8)} (h : XRaw F G w bx ve vo vm E H H') (hb : Below w.heap.size w w') : XRaw F G w' bx ve vo vm E H H' := h.kept (O := fun _ => False) (Chg.of_below hb) (fun _ _ _ h => h) (fun _ _ h => h) (fun _ _ h => h)
theorem XAt.below {F G : Nat → Prop} {w w' : World} {bx : Nat} {E : List (List UInt8)} (h : XAt F G w bx E) (hb : Below w.heap.size w w') : XAt F G w' bx E := h.kept (O := fun _ => False) (Chg.of_below hb) (fun _ _ _ h => h) (fun _ _ h => h) (fun _ _ h => h)
theorem XAt.bound {F G : Nat → Prop} {w : World} {bx : Nat} {E : List (List UInt8)} (h : XAt F G w bx E) : XAt (fun b => F b ∧ b < w.heap.size) (fun b => G b ∧ b < w.heap.size) w bx E := h.kept (Chg.refl (fun _ => False) w) (fun _ _ _ h => h) (fun _ hb h => ⟨h, hb⟩) (fun _ hb h => ⟨h, hb⟩)

theorem cells_ty {w : World} {b : Nat} {cs cs' : Array Value} {t t' : TypeId} {f f' : Nat × Nat} (h : w.heap[b]? = some (.cells cs t f)) (h' : w.heap[b]? = some (.cells cs' t' f')) (hne : t ≠ t') : False := by
  rw [h] at h'
  simp only [Option.some.injEq, Obj.cells.injEq] at h'
  exact hne h'.2.1
theorem row_ne {w : World} {lo s n b : Nat} {e t : TypeId} {v : Value} {xs : List Value} {cs : Array Value} {f : Nat × Nat} (h : w.ownsRow lo e s v n xs) (hb : v.ownBlock = some b) (hc : w.heap[b]? = some (.cells cs t f)) (hne : e ≠ t) : False := by
  obtain ⟨cs', f', h'⟩ := ownsRow_ty h hb
  exact cells_ty h' hc hne
theorem row_map {w : World} {lo s n b : Nat} {e : TypeId} {v : Value} {xs : List Value} {es : Array MapEntry} {c : Nat} (h : w.ownsRow lo e s v n xs) (hb : v.ownBlock = some b) (hc : w.heap[b]? = some (.map es c)) : False := by
  obtain ⟨cs', f', h'⟩ := ownsRow_ty h hb
  rw [h'] at hc
  cases hc
theorem chg_setBlock {w : World} {b : Nat} {es : Array MapEntry} {c : Nat} (h : w.heap[b]? = some (.map es c)) (o : Obj) : Chg (fun x => x = b) w (Go.ChangeMaps.setBlock w b o) :=
  ⟨rfl, rfl, rfl, by simp [Go.ChangeMaps.setBlock], fun k _ hk => Go.ChangeMaps.heap_setBlock_other h o hk⟩
theorem heap_set3 {w : World} {p i : Nat} {cs : Array Value} {e : TypeId} {v : Value} (h : w.heap[p]? = some (.cells cs e (0, 0))) : (w.setCell ⟨p, i, none⟩ v).heap[p]? = some (.cells (cs.setIfInBounds i v) e (0, 0)) := heap_set_cells v h
/-- one entry more -/
theorem XRaw.entered {F G : Nat → Prop} {w w2 : World} {bx : Nat} {ve vo vm ve' x : Value} {E H H' : List (List UInt8)} {l : List UInt8} {vs : List Value} (h : XRaw F G w bx ve vo vm E H H') (r1 : w.ownsRow 0 30 1 ve E.length vs) (r2 : vs.length = E.length) (r3 : ∀ (i : Nat) x l, vs[i]? = some x → E[i]? = some l → BytesR G w x l)
    (hx : BytesR G w x l) (hrow : w2.ownsRow 0 30 1 ve' (E.length + 1) (vs ++ [x])) (hg : Grew ve w ve' w2) (hnew : ∀ b, w.heap.size ≤ b → F b) : XRaw F G (w2.setCell ⟨bx, 0, none⟩ ve') bx ve' vo vm (E ++ [l]) H H' := by
  obtain ⟨h1, h2, h3, h4, h5, h6, h7⟩ := h
  obtain ⟨hc, hv⟩ := hg
  have hb2 := hc.obj h1 (fun ho => row_ne r1 ho h1 (by decide))
  have hc3 : Chg (fun b => ve.ownBlock = some b ∨ b = bx) w (w2.setCell ⟨bx, 0, none⟩ ve') := (hc.mono (fun b hb _ => Or.inl hb)).trans (Chg.set (O := fun b => b = bx) ve' rfl) (fun b hb _ => Or.inr hb)
  have hc4 : Chg (fun b => b = bx) w2 (w2.setCell ⟨bx, 0, none⟩ ve') := Chg.set ve' rfl
  have nO : ∀ {e : TypeId} {s n : Nat} {v : Value} {xs : List Value}, w.ownsRow 0 e s v n xs → e ≠ 30 → e ≠ 58 → ∀ b, v.ownBlock = some b → ¬ (ve.ownBlock = some b ∨ b = bx) := fun hr n1 n2 b hb ho => by
    rcases ho with ho | rfl
    · exact ty_apart hr r1 n1 hb ho
    · exact row_ne hr hb h1 n2
  have bytes : ∀ {y : Value} {m : List UInt8}, BytesR G w y m → BytesR G (w2.setCell ⟨bx, 0, none⟩ ve') y m := fun hy => hy.kept hc3 (nO hy.1 (by decide) (by decide)) (fun _ _ h => h)
  refine ⟨by rw [heap_set3 hb2]; rfl, h2, ⟨vs ++ [x], ?_, by simp [r2], fun i y m hy hm => ?_⟩, fun b hb => ?_, hc3.row h5 (nO h5 (by decide) (by decide)), h6, ?_⟩
  · rw [List.length_append]
    exact hc4.row hrow (fun b hb ho => by subst ho; exact row_ne hrow hb hb2 (by decide))
  · by_cases hi : i < vs.length
    · rw [List.getElem?_append_left hi] at hy
      rw [List.getElem?_append_left (by omega)] at hm
      exact bytes (r3 i y m hy hm)
    · have hi2 : i = vs.length := by
        have := (List.getElem?_eq_some_iff.1 hy).1
        simp at this
        omega
      rw [List.getElem?_append_right (by omega), hi2] at hy
      rw [List.getElem?_append_right (by omega), hi2, r2] at hm
      simp at hy hm
      subst hy hm
      exact bytes hx
  · rcases hv with e | ⟨g, e, hge⟩
    · exact h4 b (by rw [← e]; exact hb)
    · rw [e] at hb; cases hb; exact hnew _ hge
  · rcases h7 with h7 | ⟨bm, es, clock, k1, k2, k3, k4⟩
    · exact Or.inl h7
    · refine Or.inr ⟨bm, es, clock, k1, k2, hc3.obj k3 (fun ho => ?_), k4.stamped, fun e he => ?_, k4.all, k4.apart⟩
      · rcases ho with ho | rfl
        · exact row_map r1 ho k3
        · rw [k3] at h1; cases h1
      · obtain ⟨l, l1, l2, l3, l4, l5⟩ := k4.row e he
        exact ⟨l, l1, l2, l3, hc3.row l4 (nO l4 (by decide) (by decide)), l5⟩
/-- another order -/
theorem XRaw.ordered {F G : Nat → Prop} {w : World} {bx : Nat} {ve vo vm vo' : Value} {E H H' H2 : List (List UInt8)} (h : XRaw F G w bx ve vo vm E H H') (hrow : w.ownsRow 0 62 33 vo' H2.length ((ordN H2).flatMap fc)) (hG : ∀ b, vo'.ownBlock = some b → G b) : XRaw F G (w.setCell ⟨bx, 1, none⟩ vo') bx ve vo' vm E H2 H' := by
  obtain ⟨h1, h2, h3, h4, h5, h6, h7⟩ := h
  have hc4 : Chg (fun b => b = bx) w (w.setCell ⟨bx, 1, none⟩ vo') := Chg.set vo' rfl
  have nO : ∀ {e : TypeId} {s n : Nat} {v : Value} {xs : List Value}, w.ownsRow 0 e s v n xs → e ≠ 58 → ∀ b, v.ownBlock = some b → ¬ (b = bx) := fun hr n2 b hb ho => by
    subst ho
    exact row_ne hr hb h1 n2
  refine ⟨by rw [heap_set3 h1]; rfl, h2, h3.kept hc4 (fun b hb => ?_) (fun b cs fr hb _ ho => by subst ho; exact cells_ty hb h1 (by decide)) (fun _ _ h => h), h4, hc4.row hrow (nO hrow (by decide)), hG, ?_⟩
  · obtain ⟨vs, r1, _⟩ := h3
    exact nO r1 (by decide) b hb
  · rcases h7 with h7 | ⟨bm, es, clock, k1, k2, k3, k4⟩
    · exact Or.inl h7
    · refine Or.inr ⟨bm, es, clock, k1, k2, hc4.obj k3 (fun ho => by subst ho; rw [k3] at h1; cases h1), k4.stamped, fun e he => ?_, k4.all, k4.apart⟩
      obtain ⟨l, l1, l2, l3, l4, l5⟩ := k4.row e he
      exact ⟨l, l1, l2, l3, hc4.row l4 (nO l4 (by decide)), l5⟩
/-- a map where there was none -/
theorem XRaw.mapped {F G : Nat → Prop} {w : World} {bx : Nat} {ve vo : Value} {E H : List (List UInt8)} (h : XRaw F G w bx ve vo (.map none) E H []) (hnew : ∀ b, w.heap.size ≤ b → F b) : XRaw F G ((w.alloc (.map #[] 0)).setCell ⟨bx, 2, none⟩ (.map (some w.heap.size))) bx ve vo (.map (some w.heap.size)) E H [] := by
  have ha := h.below (below_alloc w (.map #[] 0))
  have hm : (w.alloc (.map #[] 0)).heap[w.heap.size]? = some (.map #[] 0) := World.alloc_heap_new w _
  obtain ⟨h1, h2, h3, h4, h5, h6, h7⟩ := ha
  have hc4 : Chg (fun b => b = bx) (w.alloc (.map #[] 0)) ((w.alloc (.map #[] 0)).setCell ⟨bx, 2, none⟩ (.map (some w.heap.size))) := Chg.set _ rfl
  have nO : ∀ {e : TypeId} {s n : Nat} {v : Value} {xs : List Value}, (w.alloc (.map #[] 0)).ownsRow 0 e s v n xs → e ≠ 58 → ∀ b, v.ownBlock = some b → ¬ (b = bx) := fun hr n2 b hb ho => by
    subst ho
    exact row_ne hr hb h1 n2
  refine ⟨by rw [heap_set3 h1]; rfl, h2, h3.kept hc4 (fun b hb => ?_) (fun b cs fr hb _ ho => by subst ho; exact cells_ty hb h1 (by decide)) (fun _ _ h => h), h4, hc4.row h5 (nO h5 (by decide)), h6, Or.inr ⟨_, #[], 0, rfl, hnew _ (Nat.le_refl _), hc4.obj hm (fun ho => by rw [ho] at hm; rw [hm] at h1; cases h1), ByIn.made _ _⟩⟩
  obtain ⟨vs, r1, _⟩ := h3
  exact nO r1 (by decide) b hb
/-- one number more at a hash -/
theorem XRaw.counted {F G : Nat → Prop} {w w' : World} {bx bm : Nat} {ve vo : Value} {E H H' : List (List UInt8)} {es es' : Array MapEntry} {clock clock' : Nat} {h : List UInt8} {v val : Value} (hX : XRaw F G w bx ve vo (.map (some bm)) E H H') (hm : w.heap[bm]? = some (.map es clock)) (hB : ByIn F w es clock H') (hl : h.length = 32)
    (hv : RowI w v (likes H' h)) (hvF : ∀ b, v.ownBlock = some b → F b) (hva : ∀ e ∈ es.toList, e.key ≠ hashV h → ∀ b, v.ownBlock = some b → e.val.ownBlock ≠ some b)
    (hs : Stamped es' clock') (h1 : ∀ x ∈ es'.toList, (x ∈ es.toList ∧ x.key ≠ hashV h) ∨ (x.key = hashV h ∧ x.val = val)) (h2 : ∀ x ∈ es.toList, x.key ≠ hashV h → x ∈ es'.toList) (h3 : ∃ x ∈ es'.toList, x.key = hashV h)
    (hc : Chg (fun b => b = bm ∨ v.ownBlock = some b) w w') (hm' : w'.heap[bm]? = some (.map es' clock')) (hval : RowI w' val (likes H' h ++ [H'.length])) (hvb : val.ownBlock = v.ownBlock ∨ ∃ g, val.ownBlock = some g ∧ w.heap.size ≤ g) (hnew : ∀ b, w.heap.size ≤ b → F b) :
    XRaw F G w' bx ve vo (.map (some bm)) E H (H' ++ [h]) := by
  obtain ⟨x1, x2, x3, x4, x5, x6, x7⟩ := hX
  have nO : ∀ {e : TypeId} {s n : Nat} {u : Value} {xs : List Value}, w.ownsRow 0 e s u n xs → e ≠ 3 → ∀ b, u.ownBlock = some b → ¬ (b = bm ∨ v.ownBlock = some b) := fun hr n1 b hb ho => by
    rcases ho with rfl | ho
    · exact row_map hr hb hm
    · exact ty_apart hr hv n1 hb ho
  have nv : ∀ b, val.ownBlock = some b → F b := fun b hb => by
    rcases hvb with e | ⟨g, e, hge⟩
    · exact hvF b (by rw [← e]; exact hb)
    · rw [e] at hb; cases hb; exact hnew _ hge
  have old : ∀ x ∈ es.toList, x.key ≠ hashV h → ∀ b, x.val.ownBlock = some b → ¬ (b = bm ∨ v.ownBlock = some b) := fun x hx hne b hb ho => by
    obtain ⟨l, l1, l2, l3, l4, l5⟩ := hB.row x hx
    rcases ho with rfl | ho
    · exact row_map l4 hb hm
    · exact hva x hx hne b ho hb
  refine ⟨hc.obj x1 (fun ho => ?_), x2, x3.kept hc (fun b hb => ?_) (fun b cs fr hb _ ho => ?_) (fun _ _ h => h), x4, hc.row x5 (nO x5 (by decide)), x6, Or.inr ⟨bm, es', clock', rfl, ?_, hm', hB.grown hl hs h1 h2 h3 (fun x hx hne l hr => hc.row hr (old x hx hne)) hval (fun _ h => h) nv (fun x hx hne e => ?_)⟩⟩
  · rcases ho with rfl | ho
    · rw [hm] at x1; cases x1
    · exact row_ne hv ho x1 (by decide)
  · obtain ⟨vs, r1, _⟩ := x3
    exact nO r1 (by decide) b hb
  · rcases ho with rfl | ho
    · rw [hm] at hb; cases hb
    · exact row_ne hv ho hb (by decide)
  · rcases x7 with ⟨x7, _⟩ | ⟨bm', _, _, k1, k2, _⟩
    · cases x7
    · cases k1; exact k2
  · obtain ⟨l, l1, l2, l3, l4, l5⟩ := hB.row x hx
    have hb : ∃ b, x.val.ownBlock = some b := by
      rcases l4.2 with ⟨_, e0⟩ | ⟨g, cap, cur, e0, _⟩
      · exact absurd (List.length_eq_zero_iff.1 e0) l3
      · exact ⟨g, by rw [e0]; rfl⟩
    obtain ⟨b, hb⟩ := hb
    rcases hvb with e' | ⟨g, e', hge⟩
    · exact hva x hx hne b (by rw [← e', ← e]; exact hb) hb
    · rw [e, e'] at hb
      have := (row_blk l4 (b := g) (by rw [e, e'])).2
      omega

end Go.Proofs.Ytljobojdcnhecaa
