/- Texts of this claim, one behind the other: Dk9, SgB, SgD. -/
import Derived.Test.YtlmdpcaikhdenaaGreatSl03
import Derived.Laws.CopyOwn
import Derived.Deep.OwnRows
import Derived.Lib.SliceRun
import Derived.StillTailTactics
import Derived.Test.YtlmdpcaikhdenaaGreatSl01
import Derived.Test.YtlmdpcaikhdenaaGreatSl02
import Derived.Laws.BitsAllLaws
set_option linter.unusedSimpArgs false
set_option linter.unusedVariables false
/- Disk: a copy of bytes; what a pending write does to bytes. -/
namespace Go.Proofs.YtlmdpcaikhdenaaGreat
open Go.RowKit Go.Maps

theorem Tryz.info5 : (Tryz.prog.info? 5).map (fun i => (i.zero, i.size, i.bytes)) = some (some (.int .u8 0), 1, 1) := by kernel_rfl

/-- the blocks that are new -/
def NewIn (w w' : World) : Nat → Prop := fun b => w.heap.size ≤ b ∧ b < w'.heap.size
theorem BytesIn.of_owns {w : World} {R : Nat → Prop} {base : Nat} {v : Value} {n : Nat} {l : List UInt8} (h : w.ownsRow base 5 1 v n (l.map bv)) (hR : ∀ b, base ≤ b → b < w.heap.size → R b) : BytesIn w R v l := by
  obtain ⟨a, c, rfl, hr, hl⟩ := RowAt.of_owns h
  have hn : l.length = n := by simpa using hl
  subst hn
  refine ⟨a, c, rfl, ownsRow_len_cap h, ownsRow_cap0 h, hr, fun x hx => ?_, fun x hx => ?_, ownsRow_base_le h (Nat.zero_le _)⟩
  · subst hx
    have := h.lt x.block rfl
    exact hR _ this.1 this.2
  · subst hx
    rcases h.2 with ⟨e, _⟩ | ⟨g, cap, cur, e, _⟩
    · cases e
    · cases e; rfl
theorem BytesIn.row {w : World} {R : Nat → Prop} {v : Value} {l : List UInt8} (h : BytesIn w R v l) : ∃ a c, v = .slice a l.length c ∧ l.length ≤ c ∧ (a = none → c = 0) ∧ RowAt w a (l.map bv) := by
  obtain ⟨a, c, h1, h2, h3, h4, _⟩ := h; exact ⟨a, c, h1, h2, h3, h4⟩

set_option maxRecDepth 100000 in
set_option maxHeartbeats 1000000 in
theorem clone_any (a : Option Addr) (c : Nat) (l : List UInt8) (w : World) (hnil : a = none → c = 0) (hrow : RowAt w a (l.map bv)) (hl : l.length ≤ 140737488355328) :
    Calls Tryz.prog 70 #[.slice a l.length c] w fun e w' => ∃ v, e = .returned v ∧ BytesIn w' (NewIn w w') v l ∧ Below w.heap.size w w' := by
  obtain ⟨i0, hi, hz0, hz1, hz2⟩ := info_parts Tryz.info5
  have hq : ∀ (w : World) (a : Option Addr) (n c n' c' : Nat), (binOp .eql 26 (.slice a n c) (.slice none n' c')).run Tryz.prog w = .ok (.bool a.isNone) w := fun w a n c n' c' => Lib.run_eql_slice_nil w _ _ a n c n' c' Tryz.underlying26
  cases a with
  | none =>
    obtain rfl := hnil rfl
    have hl0 : l = [] := by
      by_cases h : l = []
      · exact h
      · obtain ⟨b, off, e, _⟩ := hrow (by simpa using h); cases e
    subst hl0
    go_enter Tryz.func70, Tryz.ntmps70
    go_wp2
    go_ret
    exact ⟨_, rfl, BytesIn.nil _ _, Below.refl _ _⟩
  | some x =>
    have hm : maxLen = 9223372036854775807 := rfl
    go_enter Tryz.func70, Tryz.ntmps70
    go_wp2_with (at_builtin; go_loud (refine wpList_append_any _ rfl (.tmp 5) (.tmp 6) 26 rfl w.heap.size 5 i0 (.int .u8 0) 1 Tryz.underlying26 hi hz0 hz1 hz2 rfl _ 0 [] rfl (World.ownsRow_made w #[] 0 (Nat.le_refl _) (Nat.zero_le _) (by simp)) (some x) l.length c (l.map bv) rfl (by simp) hnil (hrow.below (below_alloc w _)) (by intro u hu; obtain ⟨_, _, rfl⟩ := List.mem_map.1 hu; rfl) (by omega) (by omega) (by rw [World.size_alloc]; omega) ?_))
    intro v1 w1 hown1 hg1
    have hown1 : w1.ownsRow w.heap.size 5 1 v1 l.length (l.map bv) := by simpa using hown1
    have hb : Below w.heap.size w w1 := (below_alloc w _).grown hg1 (by rw [World.size_alloc]; omega) (by intro k hk; simp [Value.ownBlock] at hk; omega)
    obtain ⟨sa, sc, rfl, _, _⟩ := RowAt.of_owns hown1
    go_wp2
    go_ret
    exact ⟨_, rfl, BytesIn.of_owns hown1 (fun b h1 h2 => ⟨h1, h2⟩), hb⟩

end Go.Proofs.YtlmdpcaikhdenaaGreat
/- Wire: width, form, number, Left. -/
namespace Go.Proofs.YtlmdpcaikhdenaaGreat
open Go.RowKit Go.Maps

theorem run_slice_lh' {P : Program} (t e : TypeId) (ht : P.underlying t = some (.slice e)) (he : ∀ w, (sizeOf e).run P w = Result.ok 1 w) (a : Option Addr) (len cap l h : Nat) (hl : l ≤ h) (hh : h ≤ cap) (w : World) :
    (Instr.slice t (.slice a len cap) (some (.int .i64 l)) (some (.int .i64 (h : Int))) none).run P w = Result.ok (.slice (subAt a cap l) (h - l) (cap - l)) w := by
  have he' : P.elem t = e := by simp [Program.elem, ht]
  rw [run_slice_lh (t := t) (ht := by rw [he']; exact ht) (kl := .i64) (kh := .i64) (h0 := by omega) (h1 := by omega) (h2 := by omega), he', he]
  simp [Result.andThen, sliced, subAt]
/-! ### how many bytes a number has -/
set_option maxHeartbeats 1000000 in
theorem width8_any (w : World) : Calls Tryz.prog 156 #[] w fun e w' => e = .returned (.int .i64 1) ∧ w = w' := by
  go_enter Tryz.func156, Tryz.ntmps156
  go_wp2
  go_loop [1, 2] (fun n t => (n = .int .i64 0 ∧ t = .int .u64 255) ∨ (n = .int .i64 1 ∧ t = .int .u64 0)) (fun n _ => 1 - (intOf n).toNat)
  case atStart => exact .inl ⟨rfl, rfl⟩
  case round =>
    rcases hrel with ⟨rfl, rfl⟩ | ⟨rfl, rfl⟩
    · go_wp2
      go_round
      case rel => simp
      case measure => simp [intOf]
    · go_wp2
      go_ret
      exact ⟨rfl, rfl⟩
set_option maxHeartbeats 1000000 in
theorem width32_any (w : World) : Calls Tryz.prog 161 #[] w fun e w' => e = .returned (.int .i64 4) ∧ w = w' := by
  go_enter Tryz.func161, Tryz.ntmps161
  go_wp2
  go_loop [1, 2] (fun n t => (n = .int .i64 0 ∧ t = .int .u64 4294967295) ∨ (n = .int .i64 1 ∧ t = .int .u64 16777215) ∨ (n = .int .i64 2 ∧ t = .int .u64 65535) ∨ (n = .int .i64 3 ∧ t = .int .u64 255) ∨ (n = .int .i64 4 ∧ t = .int .u64 0)) (fun n _ => 4 - (intOf n).toNat)
  case atStart => exact .inl ⟨rfl, rfl⟩
  case round =>
    rcases hrel with ⟨rfl, rfl⟩ | ⟨rfl, rfl⟩ | ⟨rfl, rfl⟩ | ⟨rfl, rfl⟩ | ⟨rfl, rfl⟩
    iterate 4
      · go_wp2
        go_round
        case rel => simp
        case measure => simp [intOf]
    · go_wp2
      go_ret
      exact ⟨rfl, rfl⟩
set_option maxHeartbeats 2000000 in
theorem width64_any (w : World) : Calls Tryz.prog 163 #[] w fun e w' => e = .returned (.int .i64 8) ∧ w = w' := by
  go_enter Tryz.func163, Tryz.ntmps163
  go_wp2
  go_loop [1, 2] (fun n t => (n = .int .i64 0 ∧ t = .int .u64 18446744073709551615) ∨ (n = .int .i64 1 ∧ t = .int .u64 72057594037927935) ∨ (n = .int .i64 2 ∧ t = .int .u64 281474976710655) ∨ (n = .int .i64 3 ∧ t = .int .u64 1099511627775) ∨ (n = .int .i64 4 ∧ t = .int .u64 4294967295) ∨ (n = .int .i64 5 ∧ t = .int .u64 16777215) ∨ (n = .int .i64 6 ∧ t = .int .u64 65535) ∨ (n = .int .i64 7 ∧ t = .int .u64 255) ∨ (n = .int .i64 8 ∧ t = .int .u64 0)) (fun n _ => 8 - (intOf n).toNat)
  case atStart => exact .inl ⟨rfl, rfl⟩
  case round =>
    rcases hrel with ⟨rfl, rfl⟩ | ⟨rfl, rfl⟩ | ⟨rfl, rfl⟩ | ⟨rfl, rfl⟩ | ⟨rfl, rfl⟩ | ⟨rfl, rfl⟩ | ⟨rfl, rfl⟩ | ⟨rfl, rfl⟩ | ⟨rfl, rfl⟩
    iterate 8
      · go_wp2
        go_round
        case rel => simp
        case measure => simp [intOf]
    · go_wp2
      go_ret
      exact ⟨rfl, rfl⟩

/-! ### a number behind bytes -/
theorem be_get (w x i : Nat) (h : i < w) : (be w x)[i]? = some (UInt8.ofNat (x / 256 ^ (w - 1 - i))) := by
  induction w generalizing x with
  | zero => omega
  | succ w ih =>
    rw [be]
    by_cases hi : i < w
    · rw [List.getElem?_append_left (by rw [be_len]; exact hi), ih _ hi, Nat.div_div_eq_div_mul, show w + 1 - 1 - i = (w - 1 - i) + 1 from by omega, Nat.pow_succ, Nat.mul_comm]
    · obtain rfl : i = w := by omega
      rw [List.getElem?_append_right (by rw [be_len]; exact Nat.le_refl _), be_len]
      simp
theorem be_take_succ (w x j : Nat) (h : j < w) : (be w x).take (j + 1) = (be w x).take j ++ [UInt8.ofNat (x / 256 ^ (w - 1 - j))] := by
  rw [List.take_add_one, be_get w x j h]
  rfl
theorem bv_of (x k : Nat) : bv (UInt8.ofNat (x / 256 ^ k)) = .int .u8 (((x / 256 ^ k : Nat) : Int) % 256) := by
  unfold bv
  rw [UInt8.toNat_ofNat']
  simp
/-- append of one-cell elements out of whatever slice, and where the row lies then -/
theorem wpList_append_src_at {P : Program} (w : World) {ops : Array Oper} {rest : List Oper} {o : Oper} {a : Act} {Q : Exit → Act → World → Prop} (hgd : o.guard = none) (s x : Operand) (t : TypeId)
    (ho : o.op = .call { callee := .builtin .append, args := #[s, x], argTypes := #[t, t] })
    (base : Nat) (e : TypeId) (i : TypeInfo) (z : Value) (bytes : Nat) (ht : P.underlying t = some (.slice e)) (hi : P.info? e = some i) (hz : i.zero = some z)
    (hsize : i.size = 1) (hby : i.bytes = bytes) (hzs : z.cells.size = 1)
    (v : Value) (n : Nat) (xs : List Value) (hs : a.eval s = v) (hown : w.ownsRow base e 1 v n xs)
    (sa : Option Addr) (m c : Nat) (news : List Value) (hx : a.eval x = .slice sa m c) (hl : news.length = m) (hnil : sa = none → c = 0) (hnews : RowAt w sa news) (h1 : ∀ u ∈ news, u.oneCell' = true)
    (h63 : n + m ≤ maxLen) (hbytes : (n + m) * bytes ≤ 140737488355328) (hbase : base ≤ w.heap.size)
    (h : ∀ v' w', w'.ownsRow base e 1 v' (n + m) (xs ++ news) → w.grownBy w' v.ownBlock → (v'.ownBlock = v.ownBlock ∨ v'.ownBlock = some w.heap.size) → wpList P ops Q rest (a.put o.dst v') w') : wpList P ops Q (o :: rest) a w := by
  cases sa with
  | none =>
    have hn : news = [] := by
      by_cases hne : news = []
      · exact hne
      · obtain ⟨b, off, e, _⟩ := hnews hne; cases e
    subst hn
    obtain rfl : m = 0 := by simpa using hl.symm
    obtain rfl : c = 0 := hnil rfl
    refine wpList_append_own_none hgd s x t ho base e i 1 ht hi v n xs hs hown hx ?_
    exact h v w (by simpa using hown) ⟨rfl, rfl, rfl, Nat.le_refl _, fun _ _ _ => rfl⟩ (.inl rfl)
  | some ad =>
    refine wpList_append_own_at w hgd s x t ho base e i z 1 bytes ht hi hz hsize hby hzs (by decide) v n xs hs hown ad m c news hx (by omega) ?_ h1 h63 hbytes hbase (fun v' w' h2 h3 _ h5 => h v' w' h2 h3 h5)
    intro j u hu
    have hne : news ≠ [] := by intro e; subst e; simp at hu
    obtain ⟨b, off, e, hc⟩ := hnews hne
    cases e
    have := hc j u hu
    rwa [show (⟨b, off, none⟩ : Addr).add j = ⟨b, off + j, none⟩ from by unfold Addr.add; split <;> simp_all]
/-- a row that was handed on: its blocks -/
def Grew (v : Value) (w : World) (v' : Value) (w' : World) : Prop := Chg (fun b => v.ownBlock = some b) w w' ∧ (v'.ownBlock = v.ownBlock ∨ ∃ g, v'.ownBlock = some g ∧ w.heap.size ≤ g)
theorem Grew.refl (v : Value) (w : World) : Grew v w v w := ⟨Chg.refl _ _, .inl rfl⟩
theorem Grew.trans {v v' v'' : Value} {w w' w'' : World} (h : Grew v w v' w') (k : Grew v' w' v'' w'') : Grew v w v'' w'' := by
  obtain ⟨h1, h2⟩ := h
  obtain ⟨k1, k2⟩ := k
  have hs := h1.size
  refine ⟨h1.trans k1 (fun b hb hlt => ?_), ?_⟩
  · rcases h2 with h2 | ⟨g, h2, h3⟩
    · rw [← h2]; exact hb
    · rw [h2] at hb; cases hb; omega
  · rcases k2 with k2 | ⟨g, k2, k3⟩
    · rw [k2]; exact h2
    · exact .inr ⟨g, k2, by omega⟩
theorem Grew.alloc (v : Value) (w : World) (o : Obj) : Grew v w v (w.alloc o) := ⟨Chg.alloc _ _ _, .inl rfl⟩
theorem Grew.append {v v' : Value} {w w' : World} (hg : w.grownBy w' v.ownBlock) (h : v'.ownBlock = v.ownBlock ∨ v'.ownBlock = some w.heap.size) : Grew v w v' w' :=
  ⟨Chg.of_grown hg (fun _ e _ => e), h.imp id (fun e => ⟨_, e, Nat.le_refl _⟩)⟩
set_option maxRecDepth 100000 in
set_option maxHeartbeats 4000000 in
theorem form_any {w : World} {v : Value} {n : Nat} {xs : List Value} (h : w.ownsRow 0 5 1 v n xs) (hn : n ≤ 140737488355000) {k : Nat} (hk : k ≤ 8) {x : Nat} (hx : x < 18446744073709551616) :
    Calls Tryz.prog 155 #[v, .int .i64 (k : Int), .int .u64 (x : Int)] w fun e w' => ∃ v', e = .returned v' ∧ w'.ownsRow 0 5 1 v' (n + k) (xs ++ (be k x).map bv) ∧ Grew v w v' w' := by
  have hmax : maxLen = 9223372036854775807 := rfl
  obtain ⟨i0, hi, hz0, hz1, hz2⟩ := info_parts Tryz.info5
  have HX := Lib.hid hx
  clear hx
  go_enter Tryz.func155, Tryz.ntmps155
  go_wp2
  go_loopw [0, 7] (fun b i wr => ∃ (j : Nat) (i' : Int), j ≤ k ∧ i = .int .i64 i' ∧ i' = (k : Int) - 1 - j ∧ wr.ownsRow 0 5 1 b (n + j) (xs ++ ((be k x).take j).map bv) ∧ Grew v w b wr) (fun _ i _ => (intOf i + 1).toNat)
  case atStart => exact ⟨0, _, Nat.zero_le _, rfl, by omega, by simpa using h, Grew.refl _ _⟩
  case round =>
    obtain ⟨j, i', hj, rfl, hi', hrow, hgw⟩ := hrel
    by_cases hlt : j < k
    · obtain ⟨m, rfl⟩ : ∃ m : Nat, i' = (m : Int) := ⟨k - 1 - j, by omega⟩
      have hm : m = k - 1 - j := by omega
      have hm8 : m = 0 ∨ m = 1 ∨ m = 2 ∨ m = 3 ∨ m = 4 ∨ m = 5 ∨ m = 6 ∨ m = 7 := by omega
      have hbt := be_take_succ k x j hlt
      rw [← hm] at hbt
      have hx0 : (0 : Int) ≤ (x : Int) := by omega
      have hws := hgw.1.size
      have HB := Lib.hid hbt
      have HM := Lib.hid hm
      have HI := Lib.hid hi'
      clear hbt hm hi'
      rcases hm8 with rfl | rfl | rfl | rfl | rfl | rfl | rfl | rfl
      · have hbv : bv (UInt8.ofNat (x / 256 ^ 0)) = .int .u8 ((x : Int) % 256) := by rw [bv_of]; simp
        have HV := Lib.hid hbv
        clear hbv
        go_wp2_with (at_builtin; refine wpList_append_src_at _ rfl (.tmp 14) (.tmp 20) 26 rfl 0 5 i0 (.int .u8 0) 1 Tryz.underlying26 hi hz0 hz1 hz2 rfl _ _ _ rfl (hrow.alloc _) (some ⟨wr.heap.size, 0, none⟩) 1 1 [.int .u8 ((x : Int) % 256)] rfl rfl (fun h => by cases h) (RowAt.of_row (fun j u hu => cell_new wr _ _ j u (by simpa using hu))) (by simp [Value.oneCell']) (by omega) (by omega) (Nat.zero_le _) ?_; intro v' w1 hown' hgrow hat)
        go_roundw
        case rel => exact ⟨j + 1, _, by omega, rfl, by have := HI.out; omega, by rw [HB.out, List.map_append, ← List.append_assoc, List.map_singleton, HV.out]; exact hown', hgw.trans ((Grew.alloc _ _ _).trans (Grew.append hgrow hat))⟩
        case measure => simp [intOf]
      · have hbv : bv (UInt8.ofNat (x / 256 ^ 1)) = .int .u8 ((x : Int) / 256 % 256) := by rw [bv_of]; simp
        have HV := Lib.hid hbv
        clear hbv
        go_wp2_with (at_builtin; refine wpList_append_src_at _ rfl (.tmp 14) (.tmp 20) 26 rfl 0 5 i0 (.int .u8 0) 1 Tryz.underlying26 hi hz0 hz1 hz2 rfl _ _ _ rfl (hrow.alloc _) (some ⟨wr.heap.size, 0, none⟩) 1 1 [.int .u8 ((x : Int) / 256 % 256)] rfl rfl (fun h => by cases h) (RowAt.of_row (fun j u hu => cell_new wr _ _ j u (by simpa using hu))) (by simp [Value.oneCell']) (by omega) (by omega) (Nat.zero_le _) ?_; intro v' w1 hown' hgrow hat)
        go_roundw
        case rel => exact ⟨j + 1, _, by omega, rfl, by have := HI.out; omega, by rw [HB.out, List.map_append, ← List.append_assoc, List.map_singleton, HV.out]; exact hown', hgw.trans ((Grew.alloc _ _ _).trans (Grew.append hgrow hat))⟩
        case measure => simp [intOf]
      · have hbv : bv (UInt8.ofNat (x / 256 ^ 2)) = .int .u8 ((x : Int) / 65536 % 256) := by rw [bv_of]; simp
        have HV := Lib.hid hbv
        clear hbv
        go_wp2_with (at_builtin; refine wpList_append_src_at _ rfl (.tmp 14) (.tmp 20) 26 rfl 0 5 i0 (.int .u8 0) 1 Tryz.underlying26 hi hz0 hz1 hz2 rfl _ _ _ rfl (hrow.alloc _) (some ⟨wr.heap.size, 0, none⟩) 1 1 [.int .u8 ((x : Int) / 65536 % 256)] rfl rfl (fun h => by cases h) (RowAt.of_row (fun j u hu => cell_new wr _ _ j u (by simpa using hu))) (by simp [Value.oneCell']) (by omega) (by omega) (Nat.zero_le _) ?_; intro v' w1 hown' hgrow hat)
        go_roundw
        case rel => exact ⟨j + 1, _, by omega, rfl, by have := HI.out; omega, by rw [HB.out, List.map_append, ← List.append_assoc, List.map_singleton, HV.out]; exact hown', hgw.trans ((Grew.alloc _ _ _).trans (Grew.append hgrow hat))⟩
        case measure => simp [intOf]
      · have hbv : bv (UInt8.ofNat (x / 256 ^ 3)) = .int .u8 ((x : Int) / 16777216 % 256) := by rw [bv_of]; simp
        have HV := Lib.hid hbv
        clear hbv
        go_wp2_with (at_builtin; refine wpList_append_src_at _ rfl (.tmp 14) (.tmp 20) 26 rfl 0 5 i0 (.int .u8 0) 1 Tryz.underlying26 hi hz0 hz1 hz2 rfl _ _ _ rfl (hrow.alloc _) (some ⟨wr.heap.size, 0, none⟩) 1 1 [.int .u8 ((x : Int) / 16777216 % 256)] rfl rfl (fun h => by cases h) (RowAt.of_row (fun j u hu => cell_new wr _ _ j u (by simpa using hu))) (by simp [Value.oneCell']) (by omega) (by omega) (Nat.zero_le _) ?_; intro v' w1 hown' hgrow hat)
        go_roundw
        case rel => exact ⟨j + 1, _, by omega, rfl, by have := HI.out; omega, by rw [HB.out, List.map_append, ← List.append_assoc, List.map_singleton, HV.out]; exact hown', hgw.trans ((Grew.alloc _ _ _).trans (Grew.append hgrow hat))⟩
        case measure => simp [intOf]
      · have hbv : bv (UInt8.ofNat (x / 256 ^ 4)) = .int .u8 ((x : Int) / 4294967296 % 256) := by rw [bv_of]; simp
        have HV := Lib.hid hbv
        clear hbv
        go_wp2_with (at_builtin; refine wpList_append_src_at _ rfl (.tmp 14) (.tmp 20) 26 rfl 0 5 i0 (.int .u8 0) 1 Tryz.underlying26 hi hz0 hz1 hz2 rfl _ _ _ rfl (hrow.alloc _) (some ⟨wr.heap.size, 0, none⟩) 1 1 [.int .u8 ((x : Int) / 4294967296 % 256)] rfl rfl (fun h => by cases h) (RowAt.of_row (fun j u hu => cell_new wr _ _ j u (by simpa using hu))) (by simp [Value.oneCell']) (by omega) (by omega) (Nat.zero_le _) ?_; intro v' w1 hown' hgrow hat)
        go_roundw
        case rel => exact ⟨j + 1, _, by omega, rfl, by have := HI.out; omega, by rw [HB.out, List.map_append, ← List.append_assoc, List.map_singleton, HV.out]; exact hown', hgw.trans ((Grew.alloc _ _ _).trans (Grew.append hgrow hat))⟩
        case measure => simp [intOf]
      · have hbv : bv (UInt8.ofNat (x / 256 ^ 5)) = .int .u8 ((x : Int) / 1099511627776 % 256) := by rw [bv_of]; simp
        have HV := Lib.hid hbv
        clear hbv
        go_wp2_with (at_builtin; refine wpList_append_src_at _ rfl (.tmp 14) (.tmp 20) 26 rfl 0 5 i0 (.int .u8 0) 1 Tryz.underlying26 hi hz0 hz1 hz2 rfl _ _ _ rfl (hrow.alloc _) (some ⟨wr.heap.size, 0, none⟩) 1 1 [.int .u8 ((x : Int) / 1099511627776 % 256)] rfl rfl (fun h => by cases h) (RowAt.of_row (fun j u hu => cell_new wr _ _ j u (by simpa using hu))) (by simp [Value.oneCell']) (by omega) (by omega) (Nat.zero_le _) ?_; intro v' w1 hown' hgrow hat)
        go_roundw
        case rel => exact ⟨j + 1, _, by omega, rfl, by have := HI.out; omega, by rw [HB.out, List.map_append, ← List.append_assoc, List.map_singleton, HV.out]; exact hown', hgw.trans ((Grew.alloc _ _ _).trans (Grew.append hgrow hat))⟩
        case measure => simp [intOf]
      · have hbv : bv (UInt8.ofNat (x / 256 ^ 6)) = .int .u8 ((x : Int) / 281474976710656 % 256) := by rw [bv_of]; simp
        have HV := Lib.hid hbv
        clear hbv
        go_wp2_with (at_builtin; refine wpList_append_src_at _ rfl (.tmp 14) (.tmp 20) 26 rfl 0 5 i0 (.int .u8 0) 1 Tryz.underlying26 hi hz0 hz1 hz2 rfl _ _ _ rfl (hrow.alloc _) (some ⟨wr.heap.size, 0, none⟩) 1 1 [.int .u8 ((x : Int) / 281474976710656 % 256)] rfl rfl (fun h => by cases h) (RowAt.of_row (fun j u hu => cell_new wr _ _ j u (by simpa using hu))) (by simp [Value.oneCell']) (by omega) (by omega) (Nat.zero_le _) ?_; intro v' w1 hown' hgrow hat)
        go_roundw
        case rel => exact ⟨j + 1, _, by omega, rfl, by have := HI.out; omega, by rw [HB.out, List.map_append, ← List.append_assoc, List.map_singleton, HV.out]; exact hown', hgw.trans ((Grew.alloc _ _ _).trans (Grew.append hgrow hat))⟩
        case measure => simp [intOf]
      · have hbv : bv (UInt8.ofNat (x / 256 ^ 7)) = .int .u8 ((x : Int) / 72057594037927936 % 256) := by rw [bv_of]; simp
        have HV := Lib.hid hbv
        clear hbv
        go_wp2_with (at_builtin; refine wpList_append_src_at _ rfl (.tmp 14) (.tmp 20) 26 rfl 0 5 i0 (.int .u8 0) 1 Tryz.underlying26 hi hz0 hz1 hz2 rfl _ _ _ rfl (hrow.alloc _) (some ⟨wr.heap.size, 0, none⟩) 1 1 [.int .u8 ((x : Int) / 72057594037927936 % 256)] rfl rfl (fun h => by cases h) (RowAt.of_row (fun j u hu => cell_new wr _ _ j u (by simpa using hu))) (by simp [Value.oneCell']) (by omega) (by omega) (Nat.zero_le _) ?_; intro v' w1 hown' hgrow hat)
        go_roundw
        case rel => exact ⟨j + 1, _, by omega, rfl, by have := HI.out; omega, by rw [HB.out, List.map_append, ← List.append_assoc, List.map_singleton, HV.out]; exact hown', hgw.trans ((Grew.alloc _ _ _).trans (Grew.append hgrow hat))⟩
        case measure => simp [intOf]
    · obtain rfl : j = k := by omega
      have hneg : i' < 0 := by omega
      have hg : decide (0 ≤ i') = false := by simp; omega
      rw [List.take_of_length_le (by rw [be_len]; exact Nat.le_refl _)] at hrow
      clear hi'
      go_wp2
      go_ret
      exact ⟨_, rfl, hrow, hgw⟩
theorem or_byte (x : Nat) (c : UInt8) (hx : x < 72057594037927936) : bits .or .u64 (((x * 256 : Nat) : Int)) (c.toNat : Int) = ((x * 256 + c.toNat : Nat) : Int) := by
  have hc := c.toNat_lt
  rw [u64_or_nat _ _ (by omega) (by omega), nat_join 8 (x * 256) c.toNat (by omega) (by omega)]
set_option maxRecDepth 100000 in
set_option maxHeartbeats 2000000 in
theorem number_any {w : World} {a : Option Addr} {c : Nat} {l : List UInt8} (hrow : RowAt w a (l.map bv)) (hl : l.length ≤ 8) :
    Calls Tryz.prog 127 #[.slice a l.length c] w fun e w' => e = .returned (.int .u64 (unbe l : Int)) ∧ w = w' := by
  go_enter Tryz.func127, Tryz.ntmps127
  go_wp2
  go_loop [3, 8] (fun x i => ∃ j : Nat, j ≤ l.length ∧ i = .int .i64 j ∧ x = .int .u64 (unbe (l.take j) : Int)) (fun _ i => l.length - (intOf i).toNat)
  case atStart => exact ⟨0, Nat.zero_le _, rfl, rfl⟩
  case round =>
    obtain ⟨j, hj, rfl, rfl⟩ := hrel
    by_cases hlt : j < l.length
    · obtain ⟨b, off, rfl, hc⟩ := hrow.at_ (k := j) (by simpa using hlt)
      have hu := unbe_lt (l.take j)
      have hux : unbe (l.take j) < 72057594037927936 := by
        have h1 : (l.take j).length ≤ 7 := by rw [List.length_take]; omega
        have h2 : 256 ^ (l.take j).length ≤ 256 ^ 7 := Nat.pow_le_pow_right (by omega) h1
        have h3 : 256 ^ 7 = 72057594037927936 := by decide
        omega
      have hor := or_byte _ (l[j]) hux
      have hts : l.take (j + 1) = l.take j ++ [l[j]] := by rw [List.take_add_one, List.getElem?_eq_getElem hlt]; rfl
      have hun : unbe (l.take (j + 1)) = unbe (l.take j) * 256 + (l[j]).toNat := by rw [hts, unbe_snoc]
      obtain ⟨y, hy⟩ : ∃ y, unbe (l.take j) = y := ⟨_, rfl⟩
      obtain ⟨d, hd⟩ : ∃ d, l[j] = d := ⟨_, rfl⟩
      rw [hy] at hor hux hun ⊢
      rw [hd] at hor hun
      rw [List.getElem_map, hd] at hc
      unfold bv at hc
      have hd0 := d.toNat_lt
      have hor : bits .or .u64 ((y : Int) * 256) (d.toNat : Int) = ((y * 256 + d.toNat : Nat) : Int) := by rw [← hor]; push_cast; rfl
      have HU := Lib.hid hun
      have HO := Lib.hid hor
      clear hun hts hy hd hu hor
      go_wp2
      exact ⟨⟨j + 1, by omega, by go_num, by rw [HU.out, HO.out]⟩, by simp [intOf]; omega⟩
    · obtain rfl : j = l.length := by omega
      rw [List.take_length]
      go_wp2
      go_ret
      exact ⟨rfl, rfl⟩

end Go.Proofs.YtlmdpcaikhdenaaGreat
/- Crc: the sum of bytes. -/
namespace Go.Proofs.YtlmdpcaikhdenaaGreat
open Go.RowKit Go.Maps

theorem bit_one (x : Nat) (hx : x < 4294967296) : bits .and .u32 (x : Int) 1 = ((x % 2 : Nat) : Int) := by
  have := u32_and_nat x 1 hx (by omega)
  rw [nat_mask1] at this
  exact this
theorem xor_poly (x : Nat) (hx : x < 4294967296) : bits .xor .u32 (((x / 2 : Nat) : Int)) 2197175160 = (((x / 2) ^^^ 2197175160 : Nat) : Int) := u32_xor_nat (x / 2) 2197175160 (by omega) (by omega)
theorem crcStep_any (x : Nat) (hx : x < 4294967296) (w : World) : Calls Tryz.prog 201 #[.int .u32 (x : Int)] w fun e w' => e = .returned (.int .u32 (crcStep x : Int)) ∧ w = w' := by
  have h1 := bit_one x hx
  have h2 := xor_poly x hx
  have hd : ((x / 2 : Nat) : Int) = (x : Int) / 2 := by omega
  rw [hd] at h2
  by_cases h : x % 2 = 1
  · have hs : crcStep x = (x / 2) ^^^ 2197175160 := by unfold crcStep; rw [if_pos h]
    rw [h] at h1
    rw [hs]
    clear hs hd h
    go_enter Tryz.func201, Tryz.ntmps201
    go_wp2
    go_ret
    exact ⟨rfl, rfl⟩
  · have h0 : x % 2 = 0 := by omega
    have hs : crcStep x = x / 2 := by unfold crcStep; rw [if_neg h]
    rw [h0] at h1
    rw [hs, hd]
    clear hs hd h h0 h2
    go_enter Tryz.func201, Tryz.ntmps201
    go_wp2
    go_ret
    exact ⟨rfl, rfl⟩
theorem xor_byte32 (x : Nat) (c : UInt8) (hx : x < 4294967296) : bits .xor .u32 (x : Int) (c.toNat : Int) = ((x ^^^ c.toNat : Nat) : Int) := u32_xor_nat x c.toNat hx (by have := c.toNat_lt; omega)
set_option maxRecDepth 100000 in
set_option maxHeartbeats 4000000 in
theorem through_any {w : World} {a : Option Addr} {c x : Nat} {l : List UInt8} (hrow : RowAt w a (l.map bv)) (hl : l.length ≤ 140737488355328) (hx : x < 4294967296) :
    Calls Tryz.prog 197 #[.int .u32 (x : Int), .slice a l.length c] w fun e w' => e = .returned (.int .u32 (crcThrough x l : Int)) ∧ w = w' := by
  have cS := crcStep_any
  go_enter Tryz.func197, Tryz.ntmps197
  go_wp2
  go_loop [0, 9] (fun y i => ∃ j z : Nat, j ≤ l.length ∧ i = .int .i64 j ∧ y = .int .u32 (z : Int) ∧ z = crcThrough x (l.take j)) (fun _ i => l.length - (intOf i).toNat)
  case atStart => exact ⟨0, _, Nat.zero_le _, rfl, rfl, rfl⟩
  case round =>
    obtain ⟨j, z, hj, rfl, rfl, hz⟩ := hrel
    by_cases hlt : j < l.length
    · obtain ⟨b, off, rfl, hc⟩ := hrow.at_ (k := j) (by simpa using hlt)
      have hz1 : z < 4294967296 := by rw [hz]; exact crcThrough_lt hx _
      obtain ⟨d, hd⟩ : ∃ d, l[j] = d := ⟨_, rfl⟩
      have hor := xor_byte32 z d hz1
      have hts : l.take (j + 1) = l.take j ++ [d] := by rw [List.take_add_one, List.getElem?_eq_getElem hlt, hd]; rfl
      have hnx : crcThrough x (l.take (j + 1)) = crcSteps 8 (z ^^^ d.toNat) := by rw [hts, crcThrough_snoc, ← hz]; rfl
      have hy1 := xor_lt32 hz1 d
      rw [List.getElem_map, hd] at hc
      unfold bv at hc
      obtain ⟨y, hy⟩ : ∃ y, z ^^^ d.toNat = y := ⟨_, rfl⟩
      rw [hy] at hor hnx hy1
      have hd0 := d.toNat_lt
      have HN := Lib.hid hnx
      clear hnx hts hy hd hz
      go_wp2
      go_loop [0, 17] (fun u i => ∃ q v : Nat, q ≤ 8 ∧ i = .int .i64 q ∧ u = .int .u32 (v : Int) ∧ v = crcSteps q y) (fun _ i => 8 - (intOf i).toNat)
      case atStart => exact ⟨0, _, by omega, rfl, rfl, rfl⟩
      case round =>
        obtain ⟨q, v, hq, rfl, rfl, hv⟩ := hrel
        have hv1 : v < 4294967296 := by rw [hv]; exact crcSteps_lt hy1 _
        have HV := Lib.hid hv
        clear hv
        by_cases h8 : q < 8
        · go_wp2_with (go_at_call 201; refine (cS v hv1 _).mono ?_; rintro _ w2 ⟨rfl, rfl⟩)
          go_round
          case rel => exact ⟨q + 1, _, by omega, by go_num, rfl, by rw [HV.out]; rfl⟩
          case measure => simp [intOf]; omega
        · have h8' : q = 8 := by omega
          go_wp2
          go_round
          case rel => exact ⟨j + 1, v, by omega, by go_num, rfl, by rw [HN.out, HV.out, h8']⟩
          case measure => simp [intOf]; omega
    · obtain rfl : j = l.length := by omega
      rw [List.take_length] at hz
      subst hz
      go_wp2
      go_ret
      exact ⟨rfl, rfl⟩
theorem not32 (x : Nat) (hx : x < 4294967296) : bits .xor .u32 4294967295 (x : Int) = ((4294967295 - x : Nat) : Int) := by
  have h := u32_xor_nat 4294967295 x (by omega) hx
  rw [show ((4294967295 : Nat) : Int) = 4294967295 from rfl] at h
  rw [h]
  congr 1
  apply Nat.eq_of_testBit_eq
  intro i
  rw [Nat.testBit_xor, show 4294967295 - x = 2 ^ 32 - (x + 1) from by omega, Nat.testBit_two_pow_sub_succ (by omega), show 4294967295 = 2 ^ 32 - 1 from rfl, Nat.testBit_two_pow_sub_one]
  by_cases hi : i < 32
  · simp [hi]
  · have : x.testBit i = false := Nat.testBit_lt_two_pow (Nat.lt_of_lt_of_le hx (by have := Nat.pow_le_pow_right (n := 2) (by omega) (show 32 ≤ i from by omega); omega))
    simp [hi, this]
theorem more_any {w : World} {a : Option Addr} {c : Nat} {l : List UInt8} (hrow : RowAt w a (l.map bv)) (hl : l.length ≤ 140737488355328) :
    Calls Tryz.prog 185 #[.int .u32 0, .slice a l.length c] w fun e w' => e = .returned (.int .u32 (crcSum l : Int)) ∧ w = w' := by
  have hT := through_any (c := c) (x := 4294967295) hrow hl (by omega)
  have hlt := crcThrough_lt (x := 4294967295) (by omega) l
  have h1 : bits .xor .u32 IntKind.u32.max 0 = 4294967295 := not32 0 (by omega)
  have h2 : bits .xor .u32 IntKind.u32.max (crcThrough 4294967295 l : Int) = _ := not32 _ hlt
  unfold crcSum
  obtain ⟨t, ht⟩ : ∃ t, crcThrough 4294967295 l = t := ⟨_, rfl⟩
  rw [ht] at hT h2 hlt ⊢
  clear ht
  go_enter Tryz.func185, Tryz.ntmps185
  go_wp2_with (go_at_call 197; refine hT.mono ?_; rintro _ w2 ⟨rfl, rfl⟩)
  go_ret
  exact ⟨rfl, rfl⟩
set_option maxHeartbeats 2000000 in
/-- of one text -/
theorem sum_any {w : World} {g : Nat} {a : Option Addr} {c c' : Nat} {l : List UInt8} (hc : w.cell? ⟨g, 0, none⟩ = some (.slice a l.length c)) (hrow : RowAt w a (l.map bv)) (hl : l.length ≤ 140737488355328) :
    Calls Tryz.prog 157 #[.slice (some ⟨g, 0, none⟩) 1 c'] w fun e w' => e = .returned (.int .u32 (crcSum l : Int)) ∧ w = w' := by
  have hM := more_any (c := c) hrow hl
  go_enter Tryz.func157, Tryz.ntmps157
  go_wp2
  go_loop [3, 8] (fun x i => (x = .int .u32 0 ∧ i = .int .i64 0) ∨ (x = .int .u32 (crcSum l : Int) ∧ i = .int .i64 1)) (fun _ i => 1 - (intOf i).toNat)
  case atStart => exact .inl ⟨rfl, rfl⟩
  case round =>
    rcases hrel with ⟨rfl, rfl⟩ | ⟨rfl, rfl⟩
    · go_wp2_with (go_at_call 185; refine hM.mono ?_; rintro _ w2 ⟨rfl, rfl⟩)
      go_round
      case rel => simp
      case measure => simp [intOf]
    · go_wp2
      go_ret
      exact ⟨rfl, rfl⟩

end Go.Proofs.YtlmdpcaikhdenaaGreat
