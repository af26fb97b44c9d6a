/- Texts of this claim, one behind the other: IaR, IaS, IaT, IaU, IaV. -/
import Derived.Test.YtljobojdcnhecaaFm08
import Derived.Laws.Externs
import Derived.Lib.BytesEntry
import Derived.Lib.BitFns
import Derived.Test.YtljobojdcnhecaaShelf
set_option linter.unusedSimpArgs false
set_option linter.unusedVariables false
set_option maxRecDepth 100000
set_option maxHeartbeats 4000000
namespace Go.Proofs.Ytljobojdcnhecaa
/- Find: hash.Compare. -/
open Go.RowKit Go.Maps

theorem cmpB_self : ∀ x : List UInt8, cmpB x x = 0
  | [] => rfl
  | a :: x => by rw [cmpB, Lib.compareBytes, if_neg (UInt8.lt_irrefl a), if_neg (UInt8.lt_irrefl a)]; exact cmpB_self x
theorem run_bytes_in (w : World) {g : Nat} {l : List UInt8} {e : TypeId} {f : Nat × Nat} (h : w.heap[g]? = some (.cells (l.map bv).toArray e f)) (c : Nat) : (Extern.Bytes.bytesOf (.slice (some ⟨g, 0, none⟩) l.length c)).run Try.prog w = .ok ⟨l.toArray⟩ w := by
  have := Lib.run_loadBytesX (P := Try.prog) w (l.map fun b => (b.toNat : Int)) ⟨g, 0, none⟩ .empty (fun j x hj => by
    rw [addr_add]
    refine cell_of_heap h ?_
    rw [List.getElem?_map] at hj
    rw [List.getElem?_toArray, List.getElem?_map]
    cases hl : l[j]? with
    | none => rw [hl] at hj; cases hj
    | some b => rw [hl] at hj; cases hj; rfl)
  rw [List.length_map] at this
  rw [Extern.Bytes.bytesOf, this]
  congr 1
  apply ByteArray.ext
  simp [Lib.bytesOf]
  exact (List.map_congr_left (fun b _ => by simp)).trans (List.map_id l)
theorem bcompare_any {w : World} {x y : List UInt8} {gx gy : Nat} {e : TypeId} {f : Nat × Nat} (hx : w.heap[gx]? = some (.cells (x.map bv).toArray e f)) (hy : w.heap[gy]? = some (.cells (y.map bv).toArray e f)) (lx : x.length = 32) (ly : y.length = 32) :
    Calls Try.prog 49 #[.slice (some ⟨gx, 0, none⟩) 32 32, .slice (some ⟨gy, 0, none⟩) 32 32] w fun e w' => e = .returned (.int .i64 (cmpB x y)) ∧ w' = w := by
  have h1 := run_bytes_in w hx 32
  have h2 := run_bytes_in w hy 32
  rw [lx] at h1
  rw [ly] at h2
  have hc : (callFunc 69 #[.slice (some ⟨gx, 0, none⟩) 32 32, .slice (some ⟨gy, 0, none⟩) 32 32]).run Try.prog w = .ok (.value (.int .i64 (cmpB x y))) w := by
    have he : (Extern.BytealgCompare.compare #[.slice (some ⟨gx, 0, none⟩) 32 32, .slice (some ⟨gy, 0, none⟩) 32 32]).run Try.prog w = .ok (.int .i64 (cmpB x y)) w := by
      change Sem.run Try.prog (do pure (goInt (Extern.BytealgCompare.cmp (← Extern.Bytes.bytesOf (.slice (some ⟨gx, 0, none⟩) 32 32)) (← Extern.Bytes.bytesOf (.slice (some ⟨gy, 0, none⟩) 32 32))))) w = _
      simp only [Sem.run_bind, Sem.run_pure, h1, h2, Result.andThen, Lib.cmp_eq]
      rfl
    rw [run_callFunc_extern Try.func69 (by kernel_rfl) (by kernel_rfl) (by kernel_rfl) (e := Extern.BytealgCompare.compare) (by kernel_rfl), he]
    rfl
  clear h1 h2 hx hy lx ly
  go_enter Try.func49, Try.ntmps49
  go_wp2_with (simp only [hc])
  go_ret
  exact ⟨rfl, rfl⟩
theorem compare_any {w : World} {x y : List UInt8} (hx : x.length = 32) (hy : y.length = 32) : Calls Try.prog 42 #[hashV x, hashV y] w fun e w' => e = .returned (.int .i64 (cmpB x y)) ∧ Below w.heap.size w w' := by
  obtain ⟨w2, hw2, hb2, hz2, hxA, hxB⟩ := al2 w (x.map bv).toArray 33 (y.map bv).toArray 33
  have hg2 : w.heap.size + 1 < w2.heap.size := by omega
  have hsx : (x.map bv).toArray.size = 32 := by rw [List.size_toArray, List.length_map, hx]
  have hsy : (y.map bv).toArray.size = 32 := by rw [List.size_toArray, List.length_map, hy]
  have hE := hash_equal hx hy w2
  have cB := fun q => bcompare_any (w := w2.drewN q) hxA hxB hx hy
  have HX := Lib.hid (And.intro hb2 (And.intro hxA (And.intro hxB (And.intro hsx hsy))))
  unfold hashV at hE ⊢
  clear hb2 hz2 hxA hxB hsx hsy
  go_enter Try.func42, Try.ntmps42
  go_wp2_with (first
    | (refine wpList_load_row rfl 33 _ rfl w.heap.size (by rfl) _ _ _ _ HX.out.2.1 Try.underlying33 (by kernel_rfl) (by rw [HX.out.2.2.2.1]; kernel_rfl) ?_)
    | (refine wpList_load_row rfl 33 _ rfl (w.heap.size + 1) (by rfl) _ _ _ _ HX.out.2.2.1 Try.underlying33 (by kernel_rfl) (by rw [HX.out.2.2.2.2]; kernel_rfl) ?_))
  · rename_i h0
    subst h0
    go_ret
    exact ⟨by rw [cmpB_self]; rfl, HX.out.1⟩
  · go_quiet ((go_at_call 49; with_reducible exact Calls.quiet_of_same (cB _)))
    go_wp2
    go_ret
    exact ⟨rfl, below_drewN HX.out.1 _⟩

/- Find: how many first bits two hashes share: the plain law. -/

/-- a bit of a hash, each byte's highest first -/
def bitAt (l : List UInt8) (n : Nat) : Nat := (l.getD (n / 8) 0).toNat / 2 ^ (7 - n % 8) % 2
/-- how many first bits are the same, of so many -/
def shareTo (x y : List UInt8) : Nat → Nat → Nat
  | 0, n => n
  | f + 1, n => if bitAt x n = bitAt y n then shareTo x y f (n + 1) else n
def shareN (x y : List UInt8) : Nat := shareTo x y 256 0
theorem shareTo_spec (x y : List UInt8) : ∀ f n, n ≤ shareTo x y f n ∧ shareTo x y f n ≤ n + f ∧ (∀ k, n ≤ k → k < shareTo x y f n → bitAt x k = bitAt y k) ∧ (shareTo x y f n < n + f → bitAt x (shareTo x y f n) ≠ bitAt y (shareTo x y f n))
  | 0, n => ⟨Nat.le_refl _, Nat.le_refl _, fun k h1 h2 => by simp only [shareTo] at h2; omega, fun h => by simp only [shareTo] at h; omega⟩
  | f + 1, n => by
    rw [shareTo]
    by_cases h : bitAt x n = bitAt y n
    · rw [if_pos h]
      obtain ⟨h1, h2, h3, h4⟩ := shareTo_spec x y f (n + 1)
      exact ⟨by omega, by omega, fun k hk1 hk2 => by
        by_cases e : k = n
        · rw [e]; exact h
        · exact h3 k (by omega) hk2, fun hh => h4 (by omega)⟩
    · rw [if_neg h]
      exact ⟨Nat.le_refl _, by omega, fun k h1 h2 => by omega, fun _ => h⟩
/-- the one number of that kind -/
theorem shareN_eq {x y : List UInt8} {m : Nat} (hm : m ≤ 256) (h1 : ∀ k, k < m → bitAt x k = bitAt y k) (h2 : m < 256 → bitAt x m ≠ bitAt y m) : shareN x y = m := by
  obtain ⟨_, k2, k3, k4⟩ := shareTo_spec x y 256 0
  rcases Nat.lt_trichotomy (shareN x y) m with h | h | h
  · exact absurd (h1 _ h) (k4 (by unfold shareN at h; omega))
  · exact h
  · exact absurd (k3 m (Nat.zero_le _) h) (h2 (by unfold shareN at h; omega))
theorem shareN_le (x y : List UInt8) : shareN x y ≤ 256 := by have := (shareTo_spec x y 256 0).2.1; unfold shareN; omega
theorem shareN_ge {x y : List UInt8} {b : Nat} (hb : b ≤ 256) : b ≤ shareN x y ↔ ∀ k, k < b → bitAt x k = bitAt y k := by
  obtain ⟨_, k2, k3, k4⟩ := shareTo_spec x y 256 0
  constructor
  · intro h k hk
    exact k3 k (Nat.zero_le _) (by unfold shareN at h; omega)
  · intro h
    rcases Nat.lt_or_ge (shareN x y) b with hl | hl
    · exact absurd (h _ hl) (k4 (by unfold shareN at hl; omega))
    · exact hl
theorem byte_bits : ∀ c : Fin 256, c.val ≠ 0 → Lib.bitLen c.val ≤ 8 ∧ 0 < Lib.bitLen c.val ∧ (∀ k : Fin 8, k.val < 8 - Lib.bitLen c.val → c.val / 2 ^ (7 - k.val) % 2 = 0) ∧ c.val / 2 ^ (7 - (8 - Lib.bitLen c.val)) % 2 = 1 := by decide +kernel
theorem bit_xor (a b j : Nat) : (a ^^^ b) / 2 ^ j % 2 = 0 ↔ a / 2 ^ j % 2 = b / 2 ^ j % 2 := by
  have h := Nat.testBit_xor a b j
  have e : ∀ x : Nat, x.testBit j = decide (x / 2 ^ j % 2 = 1) := fun x => Nat.testBit_eq_decide_div_mod_eq
  rw [e, e, e] at h
  have h1 := Nat.mod_two_eq_zero_or_one ((a ^^^ b) / 2 ^ j)
  have h2 := Nat.mod_two_eq_zero_or_one (a / 2 ^ j)
  have h3 := Nat.mod_two_eq_zero_or_one (b / 2 ^ j)
  rcases h1 with h1 | h1 <;> rcases h2 with h2 | h2 <;> rcases h3 with h3 | h3 <;> simp_all
theorem xor_zero {a b : Nat} (h : a ^^^ b = 0) : a = b := Nat.eq_of_testBit_eq fun i => by
  have := Nat.testBit_xor a b i
  rw [h, Nat.zero_testBit] at this
  revert this
  cases a.testBit i <;> cases b.testBit i <;> simp
/-- where two bytes part -/
theorem bytes_part {a b : UInt8} (h : a ≠ b) {z : Nat} (hz : z = 8 - Lib.bitLen (a.toNat ^^^ b.toNat)) : z < 8 ∧ (∀ k, k < z → a.toNat / 2 ^ (7 - k) % 2 = b.toNat / 2 ^ (7 - k) % 2) ∧ a.toNat / 2 ^ (7 - z) % 2 ≠ b.toNat / 2 ^ (7 - z) % 2 := by
  have hc : a.toNat ^^^ b.toNat < 256 := Nat.xor_lt_two_pow (n := 8) a.toNat_lt b.toNat_lt
  have hne : a.toNat ^^^ b.toNat ≠ 0 := fun e => h (UInt8.toNat_inj.1 (xor_zero e))
  obtain ⟨h1, h2, h3, h4⟩ := byte_bits ⟨_, hc⟩ hne
  subst hz
  refine ⟨by simp only at h2; omega, fun k hk => (bit_xor _ _ _).1 (h3 ⟨k, by omega⟩ hk), fun e => ?_⟩
  have := (bit_xor _ _ _).2 e
  simp only at h4
  omega
/-- what two texts share, by their first byte that differs -/
theorem shareN_at {x y : List UInt8} {i : Nat} (hi : i < 32) (ht : x.take i = y.take i) {a b : UInt8} (ha : x[i]? = some a) (hb : y[i]? = some b) (h : a ≠ b) : shareN x y = 8 * i + (8 - Lib.bitLen (a.toNat ^^^ b.toNat)) := by
  obtain ⟨z, hz⟩ : ∃ z, z = 8 - Lib.bitLen (a.toNat ^^^ b.toNat) := ⟨_, rfl⟩
  obtain ⟨h1, h2, h3⟩ := bytes_part h hz
  rw [← hz]
  have hx : ∀ k, k / 8 = i → x.getD (k / 8) 0 = a ∧ y.getD (k / 8) 0 = b := fun k hk => by
    rw [hk, List.getD_eq_getElem?_getD, List.getD_eq_getElem?_getD, ha, hb]; exact ⟨rfl, rfl⟩
  refine shareN_eq (by omega) (fun k hk => ?_) (fun _ => ?_)
  · unfold bitAt
    by_cases hki : k / 8 = i
    · rw [(hx k hki).1, (hx k hki).2]
      exact h2 _ (by omega)
    · have hlt : k / 8 < i := by omega
      have e : x[k / 8]? = y[k / 8]? := by
        have := congrArg (fun l => l[k / 8]?) ht
        simpa [List.getElem?_take, hlt] using this
      rw [List.getD_eq_getElem?_getD, List.getD_eq_getElem?_getD, e]
  · unfold bitAt
    have hki : (8 * i + z) / 8 = i := by omega
    rw [(hx _ hki).1, (hx _ hki).2, show (8 * i + z) % 8 = z from by omega]
    exact h3
theorem shareN_self (x : List UInt8) : shareN x x = 256 := shareN_eq (Nat.le_refl _) (fun _ _ => rfl) (fun h => by omega)

/- Find: how many first bits two hashes share: the walks. -/

theorem byte_neq (a b : UInt8) : ((((a.toNat : Nat) : Int) != ((b.toNat : Nat) : Int)) = !decide (a = b)) ∧ ((((a.toNat : Nat) : Int) == ((b.toNat : Nat) : Int)) = decide (a = b)) := by
  by_cases h : a = b
  · subst h; simp
  · have : ¬ ((a.toNat : Int) = (b.toNat : Int)) := fun e => h (UInt8.toNat_inj.1 (by omega))
    simp [h, this]
theorem share_any {w : World} {x y : List UInt8} (hx : x.length = 32) (hy : y.length = 32) : Calls Try.prog 33 #[hashV x, hashV y] w fun e w' => e = .returned (.int .i64 (shareN x y : Nat)) ∧ Below w.heap.size w w' := by
  obtain ⟨w2, hw2, hb2, hz2, hxA, hxB⟩ := al2 w (x.map bv).toArray 33 (y.map bv).toArray 33
  have hg2 : w.heap.size + 1 < w2.heap.size := by omega
  have HX := Lib.hid (And.intro hb2 (And.intro hxA (And.intro hxB (And.intro hx hy))))
  unfold hashV
  clear hb2 hz2 hxA hxB hx hy
  go_enter Try.func33, Try.ntmps33
  go_wp2
  go_loopw [6] (fun i wr => ∃ j : Nat, j ≤ 32 ∧ i = .int .i64 j ∧ Hid (x.take j = y.take j) ∧ ∃ q, wr = w2.drewN q) (fun i _ => 32 - (intOf i).toNat)
  case atStart => exact ⟨0, by omega, rfl, rfl, 0, rfl⟩
  case round =>
    obtain ⟨j, hj, rfl, HT, q, rfl⟩ := hrel
    by_cases hlt : j < 32
    · obtain ⟨a, ha⟩ : ∃ a, x[j]? = some a := ⟨_, List.getElem?_eq_getElem (by rw [HX.out.2.2.2.1]; omega)⟩
      obtain ⟨b, hb⟩ : ∃ b, y[j]? = some b := ⟨_, List.getElem?_eq_getElem (by rw [HX.out.2.2.2.2]; omega)⟩
      have qa := cell_of_heap HX.out.2.1 (i := j) (v := .int .u8 (a.toNat : Int)) (by rw [List.getElem?_toArray, List.getElem?_map, ha]; rfl)
      have qb := cell_of_heap HX.out.2.2.1 (i := j) (v := .int .u8 (b.toNat : Int)) (by rw [List.getElem?_toArray, List.getElem?_map, hb]; rfl)
      have i1 : (0 : Int) ≤ (j : Int) := by omega
      have i2 : (j : Int) < 32 := by omega
      by_cases hab : a = b
      · subst hab
        have H2 : Hid (x.take (j + 1) = y.take (j + 1)) := by show _ = _; rw [List.take_add_one, List.take_add_one, ha, hb, HT.out]
        have t1 : (((a.toNat : Nat) : Int) != ((a.toNat : Nat) : Int)) = false := by simp
        clear ha hb
        go_wp2
        go_quiet (fail)
        go_wp2
        go_roundw
        case rel => exact ⟨j + 1, by omega, by go_num, H2, _, by first | rfl | (simp only [World.drewN_drewN]; rfl)⟩
        case measure => simp [intOf]; omega
      · have t1 : (((a.toNat : Nat) : Int) != ((b.toNat : Nat) : Int)) = true := by rw [(byte_neq a b).1]; simp [hab]
        have HS := Lib.hid (shareN_at hlt HT.out ha hb hab)
        have hc : a.toNat ^^^ b.toNat < 256 := Nat.xor_lt_two_pow (n := 8) a.toNat_lt b.toNat_lt
        have hxr := u8_xor_nat a.toNat b.toNat a.toNat_lt b.toNat_lt
        obtain ⟨c, hcc⟩ : ∃ c, a.toNat ^^^ b.toNat = c := ⟨_, rfl⟩
        rw [hcc] at hxr hc HS
        obtain ⟨z, hz⟩ : ∃ z, Lib.bitLen c = z := ⟨_, rfl⟩
        have hz8 : z ≤ 8 := by
          rw [← hz]
          by_cases h0 : c = 0
          · rw [h0]; decide
          · exact (byte_bits ⟨c, hc⟩ h0).1
        have cL : ∀ w, Calls Try.prog 44 #[.int .u8 (c : Int)] w fun e w' => e = .returned (.int .i64 (8 - (z : Int))) ∧ w' = w := fun w => by
          have := Any.bits_LeadingZeros8 Try.lz8 (c : Int) w (by omega) (by omega)
          rw [Int.toNat_natCast, hz] at this
          exact this
        rw [hz] at HS
        clear ha hb hab hcc hz
        go_wp2
        go_quiet (fail)
        have HB : Hid (Below w.heap.size w ((w2.drewN q).drewN nq)) := below_drewN (below_drewN HX.out.1 _) _
        have qa' : ((w2.drewN q).drewN nq).cell? ⟨w.heap.size, j, none⟩ = _ := qa
        have qb' : ((w2.drewN q).drewN nq).cell? ⟨w.heap.size + 1, j, none⟩ = _ := qb
        clear qa qb
        generalize (w2.drewN q).drewN nq = wq at *
        have m1 : IntKind.i64.wrap (8 * (j : Int)) = 8 * (j : Int) := Go.IntWalk.i64_in _ ⟨by omega, by omega⟩
        have m2 : IntKind.i64.wrap (8 * (j : Int) + (8 - (z : Int))) = 8 * (j : Int) + (8 - (z : Int)) := Go.IntWalk.i64_in _ ⟨by omega, by omega⟩
        go_wp2
        go_quiet ((go_at_call 44; with_reducible exact Calls.quiet_of_same (cL _)))
        go_wp2
        go_ret
        exact ⟨by rw [HS.out]; exact ret_int (by omega), below_drewN HB.out _⟩
    · obtain rfl : j = 32 := by omega
      have HS : Hid (shareN x y = 256) := by
        have e : x = y := by
          have := HT.out
          rw [List.take_of_length_le (by rw [HX.out.2.2.2.1]; omega), List.take_of_length_le (by rw [HX.out.2.2.2.2]; omega)] at this
          exact this
        rw [e]; exact shareN_self y
      rw [show ((32 : Nat) : Int) = 32 from rfl]
      go_wp2
      go_ret
      exact ⟨by rw [HS.out]; rfl, below_drewN HX.out.1 _⟩

/- Find: Share of the reference. -/

theorem exec_load_mid {P : Program} {op : Oper} {a : Act} {w : World} (ty : TypeId) (x : Operand) (ho : op.op = .load ty x) (b o : Nat) (hx : a.eval x = .pointer (some ⟨b, o, none⟩)) (cs : List Value) (d : TypeDesc) (hc : w.rangeAt b o cs)
    (hu : P.underlying ty = some d) (hd : d.isRow = true) (hi : (P.info? ty).map (·.size) = some cs.length) : (execOp a.eval op).run P w = .ok (.value (.agg cs.toArray)) w := by
  unfold execOp
  simp only [ho, hx, Instr.loadAt, Instr.sureAddr, Sem.run_bind, Sem.run_pure, Result.andThen_ok, run_loadVar_mid w b o ty cs d hc hu hd hi]

/- Find: the order of an index: elements of 33 cells; its clone. -/

theorem wpList_append_anyK {P : Program} (w : World) {ops : Array Oper} {rest : List Oper} {o : Oper} {a : Act} {Q : Exit → Act → World → Prop} (hgd : o.guard = none) (s x : Operand) (t : TypeId)
    (ho : o.op = .call { callee := .builtin .append, args := #[s, x], argTypes := #[t, t] })
    (base : Nat) (e : TypeId) (i : TypeInfo) (z : Value) (size bytes : Nat) (ht : P.underlying t = some (.slice e)) (hi : P.info? e = some i) (hz : i.zero = some z)
    (hsize : i.size = size) (hby : i.bytes = bytes) (hzs : z.cells.size = size) (hsz : 0 < size)
    (v : Value) (n : Nat) (xs : List Value) (hs : a.eval s = v) (hown : w.ownsRow base e size v n xs)
    (sa : Option Addr) (m c : Nat) (news : List Value) (hx : a.eval x = .slice sa m c) (hl : news.length = m * size) (hnil : sa = none → c = 0) (hnews : RowAt w sa news) (h1 : ∀ u ∈ news, u.oneCell' = true)
    (h63 : n + m ≤ maxLen) (hbytes : (n + m) * bytes ≤ 140737488355328) (hbase : base ≤ w.heap.size)
    (h : ∀ v' w', w'.ownsRow base e size v' (n + m) (xs ++ news) → w.grownBy w' v.ownBlock → wpList P ops Q rest (a.put o.dst v') w') : wpList P ops Q (o :: rest) a w := by
  cases sa with
  | none =>
    have hn : news = [] := by
      by_cases hne : news = []
      · exact hne
      · obtain ⟨b, off, e, _⟩ := hnews hne; cases e
    subst hn
    obtain rfl : m = 0 := by
      rcases Nat.mul_eq_zero.1 hl.symm with h | h
      · exact h
      · omega
    obtain rfl : c = 0 := hnil rfl
    refine wpList_append_own_none hgd s x t ho base e i size ht hi v n xs hs hown hx ?_
    exact h v w (by simpa using hown) ⟨rfl, rfl, rfl, Nat.le_refl _, fun _ _ _ => rfl⟩
  | some ad =>
    refine wpList_append_own w hgd s x t ho base e i z size bytes ht hi hz hsize hby hzs hsz v n xs hs hown ad m c news hx hl ?_ h1 h63 hbytes hbase (fun v' w' h2 h3 _ => h v' w' h2 h3)
    intro j u hu
    have hne : news ≠ [] := by intro e; subst e; simp at hu
    obtain ⟨b, off, e, hc⟩ := hnews hne
    cases e
    have := hc j u hu
    rwa [show (⟨b, off, none⟩ : Addr).add j = ⟨b, off + j, none⟩ from by unfold Addr.add; split <;> simp_all]
/-- where x[l:] begins, elements of k cells -/
def subAtK (a : Option Addr) (cap l k : Nat) : Option Addr := if cap = l then a else a.map (·.add (l * k))
theorem run_slice_loKA {P : Program} (t e : TypeId) (k : Nat) (ht : P.underlying t = some (.slice e)) (he : ∀ w, (sizeOf e).run P w = Result.ok k w) (a : Option Addr) (len cap l : Nat) (hl : l ≤ len) (w : World) :
    (Instr.slice t (.slice a len cap) (some (.int .i64 l)) none none).run P w = Result.ok (.slice (subAtK a cap l k) (len - l) (cap - l)) w := by
  have he' : P.elem t = e := by simp [Program.elem, ht]
  rw [run_slice_l (t := t) (ht := by rw [he']; exact ht) (kl := .i64) (h0 := by omega) (h1 := by omega), he', he]
  simp [Result.andThen, sliced, subAtK]
theorem RowAt.dropK {w : World} {a : Option Addr} {xs : List Value} (h : RowAt w a xs) (cap l k : Nat) (hc : xs.length ≤ cap * k) : RowAt w (subAtK a cap l k) (xs.drop (l * k)) := fun hx => by
  have hlt : l * k < xs.length := by
    rcases Nat.lt_or_ge (l * k) xs.length with h | h
    · exact h
    · exact absurd (List.drop_of_length_le h) hx
  obtain ⟨b, off, rfl, hc'⟩ := h (by intro e; subst e; simp at hlt)
  have hne : cap ≠ l := fun e => by subst e; omega
  refine ⟨b, off + l * k, ?_, fun j u hu => ?_⟩
  · unfold subAtK; rw [if_neg hne]
    simp only [Option.map_some, Option.some.injEq]
    unfold Addr.add; split <;> simp_all
  · rw [List.getElem?_drop] at hu
    rw [Nat.add_assoc]; exact hc' _ u hu

/-- an entry's leaf's hash and number, as cells -/
def fc (p : List UInt8 × Nat) : List Value := p.1.map bv ++ [.int .i64 (p.2 : Int)]
def Ok32 (L : List (List UInt8 × Nat)) : Prop := ∀ p ∈ L, p.1.length = 32
theorem fc_len {p : List UInt8 × Nat} (h : p.1.length = 32) : (fc p).length = 33 := by simp [fc, h]
theorem flat_fc : ∀ {L : List (List UInt8 × Nat)}, Ok32 L → (L.flatMap fc).length = L.length * 33
  | [], _ => rfl
  | p :: L, h => by
    rw [List.flatMap_cons, List.length_append, fc_len (h p (List.mem_cons_self ..)), flat_fc (fun q hq => h q (List.mem_cons_of_mem _ hq)), List.length_cons]; omega
theorem fc_one {L : List (List UInt8 × Nat)} : ∀ u ∈ L.flatMap fc, u.oneCell' = true := fun u hu => by
  obtain ⟨p, -, h⟩ := List.mem_flatMap.1 hu
  rcases List.mem_append.1 h with h | h
  · exact bytes_one' u h
  · simp at h; subst h; rfl
theorem Try.info62f : (Try.prog.info? 62).map (fun i => (i.zero, i.size, i.bytes)) = some (some (.agg (List.replicate 32 (bv 0) ++ [Value.int .i64 0]).toArray), 33, 40) := by kernel_rfl
theorem row_slice {w : World} {base : Nat} {e : TypeId} {size n : Nat} {v : Value} {xs : List Value} (h : w.ownsRow base e size v n xs) : ∃ a c, v = .slice a n c := by
  rcases h.2 with ⟨rfl, rfl⟩ | ⟨g, cap, cur, rfl, _⟩
  · exact ⟨none, 0, rfl⟩
  · exact ⟨_, _, rfl⟩
theorem row_nil {w : World} {xs : List Value} (h : RowAt w none xs) : xs = [] := by
  by_cases hne : xs = []
  · exact hne
  · obtain ⟨b, off, e, _⟩ := h hne; cases e
theorem cloneF_any {w : World} {a : Option Addr} {c : Nat} {L : List (List UInt8 × Nat)} (hok : Ok32 L) (hr : RowAt w a (L.flatMap fc)) (hnil : a = none → c = 0) (hn : L.length ≤ 4194304) :
    Calls Try.prog 27 #[.slice a L.length c] w fun e w' => ∃ a' c', e = .returned (.slice a' L.length c') ∧ w'.ownsRow w.heap.size 62 33 (.slice a' L.length c') L.length (L.flatMap fc) ∧ Below w.heap.size w w' := by
  have hmax : maxLen = 9223372036854775807 := rfl
  obtain ⟨i0, hi, hz0, hz1, hz2⟩ := info_parts Try.info62f
  have hq : ∀ (w : World) (a : Option Addr) (n c n' c' : Nat), (binOp .eql 55 (.slice a n c) (.slice none n' c')).run Try.prog w = .ok (.bool a.isNone) w := fun w a n c n' c' => Lib.run_eql_slice_nil w _ _ a n c n' c' Try.underlying55
  have hfl := flat_fc hok
  cases a with
  | none =>
    have h0 := row_nil hr
    obtain rfl : L = [] := by
      rw [h0] at hfl
      exact List.length_eq_zero_iff.1 (by simp at hfl; omega)
    obtain rfl := hnil rfl
    go_enter Try.func27, Try.ntmps27
    go_wp2
    go_ret
    exact ⟨none, 0, rfl, World.ownsRow_nil _ _ _ _, Below.refl _ _⟩
  | some x =>
    have H1 := Lib.hid (hr.below (below_alloc w (.cells #[] 62)))
    have hml : (L.flatMap fc).length = L.length * 33 := hfl
    have HM := Lib.hid hml
    clear hfl hml hr hok
    go_enter Try.func27, Try.ntmps27
    go_wp2_with (at_builtin; refine wpList_append_anyK _ rfl (.tmp 5) (.tmp 6) 55 rfl w.heap.size 62 i0 _ 33 40 Try.underlying55 hi hz0 hz1 hz2 (by kernel_rfl) (by decide) _ 0 [] rfl (World.ownsRow_made w #[] 0 (Nat.le_refl _) (Nat.zero_le _) (by simp)) (some x) L.length c (L.flatMap fc) rfl HM.out hnil H1.out fc_one (by omega) (by omega) (by rw [World.size_alloc]; omega) ?_; intro v1 w2 hv1 hg1)
    have hb2 : Below w.heap.size w w2 := (below_alloc w _).grown hg1 (by rw [World.size_alloc]; omega) (fun k hk => ((World.ownsRow_made (base := w.heap.size) w #[] 0 (e := 62) (size := 33) (Nat.le_refl _) (Nat.zero_le _) (by simp)).lt k hk).1)
    obtain ⟨a1, c1, rfl⟩ := row_slice hv1
    rw [Nat.zero_add, List.nil_append] at hv1
    have H2 := Lib.hid (And.intro hv1 hb2)
    clear hv1 hb2 hg1
    go_wp2
    go_ret
    exact ⟨a1, c1, by show Ending.returned (Value.slice a1 (0 + L.length) c1) = _; rw [Nat.zero_add], H2.out.1, H2.out.2⟩

end Go.Proofs.Ytljobojdcnhecaa
