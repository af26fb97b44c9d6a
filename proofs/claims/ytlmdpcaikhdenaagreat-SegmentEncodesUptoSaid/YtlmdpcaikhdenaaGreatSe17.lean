/- Texts of this claim, one behind the other: SgR, SgS. -/
import Derived.Test.YtlmdpcaikhdenaaGreatSe11
import Derived.Test.YtlmdpcaikhdenaaGreatSe16
set_option linter.unusedSimpArgs false
set_option linter.unusedVariables false
/- The reference of entries: number, list, One. (printed by gen/rnum.py) -/
namespace Go.Proofs.YtlmdpcaikhdenaaGreat
open Go.RowKit Go.Maps

set_option maxRecDepth 100000 in
set_option maxHeartbeats 8000000 in
theorem rnumber_any {w : World} {n : Nat} (hn : n ≤ 4611686018427387904) :
    Calls Tryz.prog 118 #[.int .i64 (n : Int)] w fun e w' => ∃ v, e = .returned v ∧ w'.ownsRow 0 5 1 v 8 ((be 8 n).map bv) ∧ Grew (.slice none 0 0) w v w' := by
  have hmax : maxLen = 9223372036854775807 := rfl
  obtain ⟨i0, hi, hz0, hz1, hz2⟩ := info_parts Tryz.info5
  have hcv : IntKind.u64.wrap (n : Int) = (n : Int) := by rw [show IntKind.u64.wrap (n : Int) = (n : Int) % 18446744073709551616 from by simp [IntKind.wrap, IntKind.bits, IntKind.signed]]; omega
  have hx0 : (0 : Int) ≤ (n : Int) := by omega
  clear hn
  go_enter Tryz.func118, Tryz.ntmps118
  go_wp2
  go_loopw [3, 4] (fun b i wr => ∃ (j : Nat) (i' : Int), j ≤ 8 ∧ i = .int .i64 i' ∧ i' = 56 - 8 * (j : Int) ∧ wr.ownsRow 0 5 1 b j (((be 8 n).take j).map bv) ∧ Grew (.slice none 0 0) w b wr) (fun _ i _ => (intOf i + 8).toNat)
  case atStart => exact ⟨0, _, by omega, rfl, by omega, by simpa using World.ownsRow_nil w 0 5 1, Grew.refl _ _⟩
  case round =>
    obtain ⟨j, i', hj, rfl, hi', hrow, hgw⟩ := hrel
    by_cases hlt : j < 8
    · have hbt := be_take_succ 8 n j hlt
      have hws := hgw.1.size
      have hc : (j = 0 ∧ i' = 56) ∨ (j = 1 ∧ i' = 48) ∨ (j = 2 ∧ i' = 40) ∨ (j = 3 ∧ i' = 32) ∨ (j = 4 ∧ i' = 24) ∨ (j = 5 ∧ i' = 16) ∨ (j = 6 ∧ i' = 8) ∨ (j = 7 ∧ i' = 0) := by omega
      have HB := Lib.hid hbt
      clear hbt hi'
      rcases hc with ⟨rfl, rfl⟩ | ⟨rfl, rfl⟩ | ⟨rfl, rfl⟩ | ⟨rfl, rfl⟩ | ⟨rfl, rfl⟩ | ⟨rfl, rfl⟩ | ⟨rfl, rfl⟩ | ⟨rfl, rfl⟩
      · have hbv : bv (UInt8.ofNat (n / 256 ^ (8 - 1 - 0))) = .int .u8 ((n : Int) / 72057594037927936 % 256) := by rw [bv_of]; simp
        have HV := Lib.hid hbv
        clear hbv
        go_wp2_with (at_builtin; refine wpList_append_src_at _ rfl (.tmp 9) (.tmp 15) 26 rfl 0 5 i0 (.int .u8 0) 1 Tryz.underlying26 hi hz0 hz1 hz2 rfl _ _ _ rfl (hrow.alloc _) (some ⟨wr.heap.size, 0, none⟩) 1 1 [.int .u8 ((n : Int) / 72057594037927936 % 256)] rfl rfl (fun h => by cases h) (RowAt.of_row (fun j u hu => cell_new wr _ _ j u (by simpa using hu))) (by simp [Value.oneCell']) (by omega) (by omega) (Nat.zero_le _) ?_; intro v' w1 hown' hgrow hat)
        go_roundw
        case rel => exact ⟨1, _, by omega, rfl, by omega, by rw [HB.out, List.map_append, List.map_singleton, HV.out]; exact hown', hgw.trans ((Grew.alloc _ _ _).trans (Grew.append hgrow hat))⟩
        case measure => simp [intOf]
      · have hbv : bv (UInt8.ofNat (n / 256 ^ (8 - 1 - 1))) = .int .u8 ((n : Int) / 281474976710656 % 256) := by rw [bv_of]; simp
        have HV := Lib.hid hbv
        clear hbv
        go_wp2_with (at_builtin; refine wpList_append_src_at _ rfl (.tmp 9) (.tmp 15) 26 rfl 0 5 i0 (.int .u8 0) 1 Tryz.underlying26 hi hz0 hz1 hz2 rfl _ _ _ rfl (hrow.alloc _) (some ⟨wr.heap.size, 0, none⟩) 1 1 [.int .u8 ((n : Int) / 281474976710656 % 256)] rfl rfl (fun h => by cases h) (RowAt.of_row (fun j u hu => cell_new wr _ _ j u (by simpa using hu))) (by simp [Value.oneCell']) (by omega) (by omega) (Nat.zero_le _) ?_; intro v' w1 hown' hgrow hat)
        go_roundw
        case rel => exact ⟨2, _, by omega, rfl, by omega, by rw [HB.out, List.map_append, List.map_singleton, HV.out]; exact hown', hgw.trans ((Grew.alloc _ _ _).trans (Grew.append hgrow hat))⟩
        case measure => simp [intOf]
      · have hbv : bv (UInt8.ofNat (n / 256 ^ (8 - 1 - 2))) = .int .u8 ((n : Int) / 1099511627776 % 256) := by rw [bv_of]; simp
        have HV := Lib.hid hbv
        clear hbv
        go_wp2_with (at_builtin; refine wpList_append_src_at _ rfl (.tmp 9) (.tmp 15) 26 rfl 0 5 i0 (.int .u8 0) 1 Tryz.underlying26 hi hz0 hz1 hz2 rfl _ _ _ rfl (hrow.alloc _) (some ⟨wr.heap.size, 0, none⟩) 1 1 [.int .u8 ((n : Int) / 1099511627776 % 256)] rfl rfl (fun h => by cases h) (RowAt.of_row (fun j u hu => cell_new wr _ _ j u (by simpa using hu))) (by simp [Value.oneCell']) (by omega) (by omega) (Nat.zero_le _) ?_; intro v' w1 hown' hgrow hat)
        go_roundw
        case rel => exact ⟨3, _, by omega, rfl, by omega, by rw [HB.out, List.map_append, List.map_singleton, HV.out]; exact hown', hgw.trans ((Grew.alloc _ _ _).trans (Grew.append hgrow hat))⟩
        case measure => simp [intOf]
      · have hbv : bv (UInt8.ofNat (n / 256 ^ (8 - 1 - 3))) = .int .u8 ((n : Int) / 4294967296 % 256) := by rw [bv_of]; simp
        have HV := Lib.hid hbv
        clear hbv
        go_wp2_with (at_builtin; refine wpList_append_src_at _ rfl (.tmp 9) (.tmp 15) 26 rfl 0 5 i0 (.int .u8 0) 1 Tryz.underlying26 hi hz0 hz1 hz2 rfl _ _ _ rfl (hrow.alloc _) (some ⟨wr.heap.size, 0, none⟩) 1 1 [.int .u8 ((n : Int) / 4294967296 % 256)] rfl rfl (fun h => by cases h) (RowAt.of_row (fun j u hu => cell_new wr _ _ j u (by simpa using hu))) (by simp [Value.oneCell']) (by omega) (by omega) (Nat.zero_le _) ?_; intro v' w1 hown' hgrow hat)
        go_roundw
        case rel => exact ⟨4, _, by omega, rfl, by omega, by rw [HB.out, List.map_append, List.map_singleton, HV.out]; exact hown', hgw.trans ((Grew.alloc _ _ _).trans (Grew.append hgrow hat))⟩
        case measure => simp [intOf]
      · have hbv : bv (UInt8.ofNat (n / 256 ^ (8 - 1 - 4))) = .int .u8 ((n : Int) / 16777216 % 256) := by rw [bv_of]; simp
        have HV := Lib.hid hbv
        clear hbv
        go_wp2_with (at_builtin; refine wpList_append_src_at _ rfl (.tmp 9) (.tmp 15) 26 rfl 0 5 i0 (.int .u8 0) 1 Tryz.underlying26 hi hz0 hz1 hz2 rfl _ _ _ rfl (hrow.alloc _) (some ⟨wr.heap.size, 0, none⟩) 1 1 [.int .u8 ((n : Int) / 16777216 % 256)] rfl rfl (fun h => by cases h) (RowAt.of_row (fun j u hu => cell_new wr _ _ j u (by simpa using hu))) (by simp [Value.oneCell']) (by omega) (by omega) (Nat.zero_le _) ?_; intro v' w1 hown' hgrow hat)
        go_roundw
        case rel => exact ⟨5, _, by omega, rfl, by omega, by rw [HB.out, List.map_append, List.map_singleton, HV.out]; exact hown', hgw.trans ((Grew.alloc _ _ _).trans (Grew.append hgrow hat))⟩
        case measure => simp [intOf]
      · have hbv : bv (UInt8.ofNat (n / 256 ^ (8 - 1 - 5))) = .int .u8 ((n : Int) / 65536 % 256) := by rw [bv_of]; simp
        have HV := Lib.hid hbv
        clear hbv
        go_wp2_with (at_builtin; refine wpList_append_src_at _ rfl (.tmp 9) (.tmp 15) 26 rfl 0 5 i0 (.int .u8 0) 1 Tryz.underlying26 hi hz0 hz1 hz2 rfl _ _ _ rfl (hrow.alloc _) (some ⟨wr.heap.size, 0, none⟩) 1 1 [.int .u8 ((n : Int) / 65536 % 256)] rfl rfl (fun h => by cases h) (RowAt.of_row (fun j u hu => cell_new wr _ _ j u (by simpa using hu))) (by simp [Value.oneCell']) (by omega) (by omega) (Nat.zero_le _) ?_; intro v' w1 hown' hgrow hat)
        go_roundw
        case rel => exact ⟨6, _, by omega, rfl, by omega, by rw [HB.out, List.map_append, List.map_singleton, HV.out]; exact hown', hgw.trans ((Grew.alloc _ _ _).trans (Grew.append hgrow hat))⟩
        case measure => simp [intOf]
      · have hbv : bv (UInt8.ofNat (n / 256 ^ (8 - 1 - 6))) = .int .u8 ((n : Int) / 256 % 256) := by rw [bv_of]; simp
        have HV := Lib.hid hbv
        clear hbv
        go_wp2_with (at_builtin; refine wpList_append_src_at _ rfl (.tmp 9) (.tmp 15) 26 rfl 0 5 i0 (.int .u8 0) 1 Tryz.underlying26 hi hz0 hz1 hz2 rfl _ _ _ rfl (hrow.alloc _) (some ⟨wr.heap.size, 0, none⟩) 1 1 [.int .u8 ((n : Int) / 256 % 256)] rfl rfl (fun h => by cases h) (RowAt.of_row (fun j u hu => cell_new wr _ _ j u (by simpa using hu))) (by simp [Value.oneCell']) (by omega) (by omega) (Nat.zero_le _) ?_; intro v' w1 hown' hgrow hat)
        go_roundw
        case rel => exact ⟨7, _, by omega, rfl, by omega, by rw [HB.out, List.map_append, List.map_singleton, HV.out]; exact hown', hgw.trans ((Grew.alloc _ _ _).trans (Grew.append hgrow hat))⟩
        case measure => simp [intOf]
      · have hbv : bv (UInt8.ofNat (n / 256 ^ (8 - 1 - 7))) = .int .u8 ((n : Int) % 256) := by rw [bv_of]; simp
        have HV := Lib.hid hbv
        clear hbv
        go_wp2_with (at_builtin; refine wpList_append_src_at _ rfl (.tmp 9) (.tmp 15) 26 rfl 0 5 i0 (.int .u8 0) 1 Tryz.underlying26 hi hz0 hz1 hz2 rfl _ _ _ rfl (hrow.alloc _) (some ⟨wr.heap.size, 0, none⟩) 1 1 [.int .u8 ((n : Int) % 256)] rfl rfl (fun h => by cases h) (RowAt.of_row (fun j u hu => cell_new wr _ _ j u (by simpa using hu))) (by simp [Value.oneCell']) (by omega) (by omega) (Nat.zero_le _) ?_; intro v' w1 hown' hgrow hat)
        go_roundw
        case rel => exact ⟨8, _, by omega, rfl, by omega, by rw [HB.out, List.map_append, List.map_singleton, HV.out]; exact hown', hgw.trans ((Grew.alloc _ _ _).trans (Grew.append hgrow hat))⟩
        case measure => simp [intOf]
    · obtain rfl : j = 8 := by omega
      have hneg : i' < 0 := by omega
      have hg : decide (0 ≤ i') = false := by simp; omega
      rw [List.take_of_length_le (by rw [be_len]; exact Nat.le_refl _)] at hrow
      clear hi'
      go_wp2
      go_ret
      exact ⟨_, rfl, hrow, hgw⟩
theorem ownsRow_from {w : World} {base lo size n : Nat} {e : TypeId} {v : Value} {xs : List Value} (h : w.ownsRow base e size v n xs) (hlo : ∀ g, v.ownBlock = some g → lo ≤ g) : w.ownsRow lo e size v n xs := by
  refine ⟨h.1, ?_⟩
  rcases h.2 with ⟨e1, e2⟩ | ⟨g, cap, cur, rfl, h1, h2⟩
  · exact .inl ⟨e1, e2⟩
  · exact .inr ⟨g, cap, cur, rfl, hlo g rfl, h2⟩
theorem be2 (x : Nat) : be 2 x = [UInt8.ofNat (x / 256), UInt8.ofNat x] := rfl
set_option maxRecDepth 100000 in
set_option maxHeartbeats 4000000 in
theorem rlist_any {w : World} {a : Option Addr} {c : Nat} {b : List UInt8} (hrow : RowAt w a (b.map bv)) (hnil : a = none → c = 0) (hb : b.length ≤ 4096) :
    Calls Tryz.prog 119 #[.slice a b.length c] w fun e w' => ∃ U, e = .returned U ∧ BytesIn w' (fun x => w.heap.size ≤ x) U (be 2 b.length ++ b) ∧ Below w.heap.size w w' := by
  have hmax : maxLen = 9223372036854775807 := rfl
  obtain ⟨i0, hi, hz0, hz1, hz2⟩ := info_parts Tryz.info5
  obtain ⟨w1, hw1⟩ : ∃ w1, w.alloc (.cells #[.int .u8 ((b.length : Int) / 256), .int .u8 ((b.length : Int) % 256)] 5) = w1 := ⟨_, rfl⟩
  have hb1 : Below w.heap.size w w1 := by rw [← hw1]; exact below_alloc w _
  have hlit := ownsRow_lit w w.heap.size #[.int .u8 ((b.length : Int) / 256), .int .u8 ((b.length : Int) % 256)] 5 1 2 (Nat.le_refl _) (by omega) rfl
  rw [hw1] at hlit
  have HW := Lib.hid hw1
  have hs1 := hb1.size
  clear hw1
  go_enter Tryz.func119, Tryz.ntmps119
  go_wp2_with (first | rw [HW.out] | (at_builtin; refine wpList_append_any _ rfl (.tmp 11) (.tmp 12) 26 rfl w.heap.size 5 i0 (.int .u8 0) 1 Tryz.underlying26 hi hz0 hz1 hz2 rfl _ 2 _ rfl hlit a b.length c (b.map bv) rfl (by simp) hnil (hrow.below hb1) (by intro u hu; obtain ⟨_, _, rfl⟩ := List.mem_map.1 hu; rfl) (by omega) (by omega) hs1 ?_; intro v1 w2 hv1 hg1; obtain ⟨sa, sc, rfl, _, _⟩ := RowAt.of_owns hv1))
  go_ret
  have hb2 : Below w.heap.size w w2 := hb1.grown hg1 hs1 (fun k hk => by have h2 : some w.heap.size = some k := hk; cases h2; omega)
  have hlB : (be 2 b.length ++ b).length = 2 + b.length := by simp [be_len]
  refine ⟨_, rfl, ?_, hb2⟩
  refine BytesIn.of_owns (base := w.heap.size) (n := 2 + b.length) ?_ (fun b h _ => h)
  have e1 : (be 2 b.length ++ b).map bv = [.int .u8 ((b.length : Int) / 256), .int .u8 ((b.length : Int) % 256)] ++ b.map bv := by
    rw [be2, List.map_append, List.map_cons, List.map_cons, List.map_nil, bv_ofNat, bv_ofNat]
    congr 2
    have : (((b.length / 256 : Nat) : Int) % 256) = (b.length : Int) / 256 := by omega
    rw [this]
  rw [e1]
  simpa using hv1
set_option maxRecDepth 100000 in
set_option maxHeartbeats 4000000 in
theorem rone_any {w : World} {n : Nat} (hn : n ≤ 4611686018427387904) {a : Option Addr} {c : Nat} {b : List UInt8} (hrow : RowAt w a (b.map bv)) (hnil : a = none → c = 0) (hb : b.length ≤ 4096) :
    Calls Tryz.prog 75 #[.int .i64 (n : Int), .slice a b.length c] w fun e w' => ∃ U, e = .returned (.tuple #[U, .int .i64 0]) ∧ BytesIn w' (fun x => w.heap.size ≤ x) U (oneL n b) ∧ Below w.heap.size w w' := by
  have hmax : maxLen = 9223372036854775807 := rfl
  obtain ⟨i0, hi, hz0, hz1, hz2⟩ := info_parts Tryz.info5
  have g1 : decide ((n : Int) < 0) = false := by simp
  have g2 : decide ((4611686018427387904 : Int) < (n : Int)) = false := by simp; omega
  have g3 : decide ((4096 : Int) < (b.length : Int)) = false := by simp; omega
  have hN := rnumber_any (w := w) hn
  clear hn
  go_enter Tryz.func75, Tryz.ntmps75
  go_wp2_with (first
    | (go_at_call 118; refine hN.mono ?_; rintro _ w1 ⟨v1, rfl, hr1, hg1⟩; have hb1 : Below w.heap.size w w1 := hg1.1.below (fun k hk => by cases hk); have hL := rlist_any (c := c) (hrow.below hb1) hnil hb)
    | (go_at_call 119; refine hL.mono ?_; rintro _ w2 ⟨U, rfl, hU, hb2⟩; obtain ⟨ua, uc, rfl, _, hun, hur⟩ := hU.row; have hr2 := (Chg.of_below (O := fun _ => False) hb2).row hr1 (fun _ _ h => h); have hlU : (be 2 b.length ++ b).length = 2 + b.length := (by simp [be_len]); rw [hlU])
    | (at_builtin; refine wpList_append_src_at _ rfl (.tmp 16) (.tmp 18) 26 rfl 0 5 i0 (.int .u8 0) 1 Tryz.underlying26 hi hz0 hz1 hz2 rfl _ 8 _ rfl hr2 ua (2 + b.length) uc ((be 2 b.length ++ b).map bv) rfl (by simp [be_len]) hun hur (by intro u hu; obtain ⟨_, _, rfl⟩ := List.mem_map.1 hu; rfl) (by omega) (by omega) (Nat.zero_le _) ?_; intro v3 w3 hv3 hg3 hat3))
  go_ret2
  have hs1 := hb1.size
  have hgg : Grew (.slice none 0 0) w v3 w3 := (hg1.trans ⟨Chg.of_below hb2, .inl rfl⟩).trans (Grew.append hg3 hat3)
  have hbw : Below w.heap.size w w3 := hgg.1.below (fun k hk => by cases hk)
  refine ⟨_, rfl, ?_, hbw⟩
  have e1 : (oneL n b).map bv = (be 8 n).map bv ++ (be 2 b.length ++ b).map bv := by unfold oneL; rw [← List.map_append, List.append_assoc]
  have hbase : w3.ownsRow w.heap.size 5 1 v3 (8 + (2 + b.length)) ((oneL n b).map bv) := by
    rw [e1]
    exact ownsRow_from hv3 (fun g hg => by
      rcases hgg.2 with h | ⟨g', h, hle⟩
      · rw [h] at hg; cases hg
      · rw [h] at hg; cases hg; exact hle)
  exact BytesIn.of_owns hbase (fun b h _ => h)

end Go.Proofs.YtlmdpcaikhdenaaGreat
/- The reference of entries: Take. -/
namespace Go.Proofs.YtlmdpcaikhdenaaGreat
open Go.RowKit Go.Maps

/-- where a number or an entry may not be: an error -/
theorem rone_bad {w : World} {n : Int} {a : Option Addr} {c len : Nat} (h : n < 0 ∨ 4611686018427387904 < n ∨ 4096 < len) :
    Calls Tryz.prog 75 #[.int .i64 n, .slice a len c] w fun e w' => ∃ er : Int, e = .returned (.tuple #[.slice none 0 0, .int .i64 er]) ∧ (er != 0) = true ∧ w = w' := by
  by_cases h1 : n < 0
  · have g1 : decide (n < 0) = true := by simpa using h1
    clear h h1
    go_enter Tryz.func75, Tryz.ntmps75
    go_wp2
    go_ret2
    exact ⟨4, rfl, rfl, rfl⟩
  have g1 : decide (n < 0) = false := by simpa using h1
  by_cases h2 : 4611686018427387904 < n
  · have g2 : decide ((4611686018427387904 : Int) < n) = true := by simpa using h2
    clear h h1 h2
    go_enter Tryz.func75, Tryz.ntmps75
    go_wp2
    go_ret2
    exact ⟨4, rfl, rfl, rfl⟩
  have g2 : decide ((4611686018427387904 : Int) < n) = false := by simpa using h2
  have g3 : decide ((4096 : Int) < (len : Int)) = true := by simp; omega
  clear h h1 h2
  go_enter Tryz.func75, Tryz.ntmps75
  go_wp2
  go_ret2
  exact ⟨3, rfl, rfl, rfl⟩
theorem drop8 {b : List UInt8} : (b.drop 8).drop 2 = b.drop 10 := by rw [List.drop_drop]
/-- the bytes are an entry just where its form is these -/
theorem one_take {b : List UInt8} (h10 : 10 ≤ b.length) (hn : takeN b ≤ 4611686018427387904) (hl : b.length ≤ 4106) : oneL (takeN b) (b.drop 10) = b ↔ takeOk b = true := by
  have h1 : (b.take 8).length = 8 := by simp; omega
  have h2 : ((b.drop 8).take 2).length = 2 := by simp; omega
  have e1 : be 8 (takeN b) = b.take 8 := by
    have := be_unbe (b.take 8)
    rw [h1] at this
    exact this
  have e2 : be 2 (lstM b 8) = (b.drop 8).take 2 := by
    have := be_unbe ((b.drop 8).take 2)
    rw [h2] at this
    exact this
  have hb : b = b.take 8 ++ ((b.drop 8).take 2 ++ b.drop 10) := by
    rw [← drop8, List.take_append_drop, List.take_append_drop]
  have hlm : lstM b 8 < 65536 := by
    have := unbe_lt ((b.drop 8).take 2)
    rw [h2] at this
    exact this
  have hld : (b.drop 10).length = b.length - 10 := by simp
  constructor
  · intro h
    have h3 : be 8 (takeN b) ++ (be 2 (b.drop 10).length ++ b.drop 10) = b.take 8 ++ ((b.drop 8).take 2 ++ b.drop 10) := by
      rw [← hb]; rw [← List.append_assoc]; exact h
    rw [e1] at h3
    have h4 := List.append_cancel_left h3
    have h5 : be 2 (b.drop 10).length = (b.drop 8).take 2 := List.append_cancel_right h4
    have h6 : lstM b 8 = (b.drop 10).length % 256 ^ 2 := by unfold lstM; rw [← h5, unbe_be]
    rw [hld] at h6
    have h7 : (b.length - 10) % 256 ^ 2 = b.length - 10 := Nat.mod_eq_of_lt (by omega)
    rw [h7] at h6
    exact (takeOk_iff b).2 ⟨h10, by omega, by omega, hn⟩
  · intro h
    obtain ⟨_, k2, k3, _⟩ := (takeOk_iff b).1 h
    unfold oneL
    rw [e1, hld, show b.length - 10 = lstM b 8 from by omega, e2, List.append_assoc, ← hb]
set_option maxRecDepth 100000 in
set_option maxHeartbeats 8000000 in
theorem rtake_any {w : World} {a : Option Addr} {c : Nat} {b : List UInt8} (hrow : RowAt w a (b.map bv)) (hnil : a = none → c = 0) (hcap : b.length ≤ c) (hl : b.length ≤ 140737488355000) :
    Calls Tryz.prog 141 #[.slice a b.length c] w (TakePost w b) := by
  have hmax : maxLen = 9223372036854775807 := rfl
  obtain ⟨i0, hi, hz0, hz1, hz2⟩ := info_parts Tryz.info5
  have bad : takeOk b = false → ∀ w', Below w.heap.size w w' → TakePost w b (.returned (.tuple #[.int .i64 0, .slice none 0 0, .int .i64 250])) w' := fun h w' hb => .inr ⟨h, rfl, hb⟩
  by_cases h10 : b.length < 10
  · have hok : takeOk b = false := by rw [Bool.eq_false_iff]; intro h; have := ((takeOk_iff b).1 h).1; omega
    have HB := Lib.hid (bad hok)
    have g1 : decide ((b.length : Int) < 10) = true := by simp; omega
    clear bad hok h10
    go_enter Tryz.func141, Tryz.ntmps141
    go_wp2
    go_ret3
    exact HB.out _ (Below.refl _ _)
  have g1 : decide ((b.length : Int) < 10) = false := by simp; omega
  by_cases h41 : 4106 < b.length
  · have hok : takeOk b = false := by rw [Bool.eq_false_iff]; intro h; have := (takeOk_iff b).1 h; omega
    have HB := Lib.hid (bad hok)
    have g2 : decide ((4106 : Int) < (b.length : Int)) = true := by simp; omega
    clear bad hok h10 h41
    go_enter Tryz.func141, Tryz.ntmps141
    go_wp2
    go_ret3
    exact HB.out _ (Below.refl _ _)
  have g2 : decide ((4106 : Int) < (b.length : Int)) = false := by simp; omega
  have hF := rfirst_any (c := c) hrow (by omega) (by omega)
  have hN2 : takeN b < 18446744073709551616 := by
    have h1 : (b.take 8).length = 8 := by simp; omega
    have := unbe_lt (b.take 8)
    rw [h1] at this
    exact this
  have hsl := run_slice_lo (P := Tryz.prog) 26 5 Tryz.underlying26 Tryz.sizeOf5 a b.length c 10 (by omega)
  rw [show ((10 : Nat) : Int) = 10 from rfl] at hsl
  have hdl : (b.drop 10).length = b.length - 10 := by simp
  have hdr : RowAt w (subAt a c 10) ((b.drop 10).map bv) := by rw [List.map_drop]; exact hrow.drop c 10 (by simpa using hcap)
  have hdn : subAt a c 10 = none → c - 10 = 0 := fun e => by have := hnil (subAt_none.1 e); omega
  have hns := sgn_eq _ hN2
  obtain ⟨q, hq⟩ : ∃ q, b.length - 10 = q := ⟨_, rfl⟩
  rw [hq] at hsl hdl
  obtain ⟨bd, hbd⟩ : ∃ bd, b.drop 10 = bd := ⟨_, rfl⟩
  have htb : takeB b = bd := hbd
  have hot : takeN b ≤ 4611686018427387904 → b.length ≤ 4106 → (oneL (takeN b) (b.drop 10) = b ↔ takeOk b = true) := one_take (b := b) (by omega)
  rw [hbd] at hdl hdr hot
  have hconv := fun (w : World) (a : Option Addr) (c : Nat) (l : List UInt8) (h : RowAt w a (l.map bv)) => run_conv (P := Tryz.prog) (w := w) 26 9 5 Tryz.underlying26 Tryz.underlying5 Tryz.underlying9 (c := c) h
  have HCV := Lib.hid hconv
  have HROW := Lib.hid hrow
  clear hconv
  by_cases hn : takeN b ≤ 4611686018427387904
  · have hsg : sgn (takeN b) = (takeN b : Int) := by rcases hns with h | h; exact h.1; omega
    rw [hsg] at hF
    obtain ⟨tn, htn⟩ : ∃ tn, takeN b = tn := ⟨_, rfl⟩
    rw [htn] at hF hot
    have hbdl : bd.length ≤ 4096 := by omega
    have hrone := fun W (hb : Below w.heap.size w W) a2 c2 (hr : RowAt W a2 (bd.map bv)) (hn2 : a2 = none → c2 = 0) => rone_any (w := W) (n := tn) (by omega) hr hn2 hbdl (c := c2)
    rw [hdl] at hrone
    have hql : q ≤ 4096 := by omega
    have HO := Lib.hid hrone
    have HBD := Lib.hid hbdl
    have HOT := Lib.hid hot
    have HTN := Lib.hid htn
    have HTB := Lib.hid htb
    have HBAD := Lib.hid bad
    clear hrone hns hsg hN2 hbdl hq hot htn htb bad hbd
    go_enter Tryz.func141, Tryz.ntmps141
    go_wp2_with (first
      | (go_at_call 180; refine hF.mono ?_; rintro _ wz ⟨rfl, rfl⟩)
      | (at_builtin; refine wpList_append_src_at _ rfl (.const (.slice none 0 0)) (.tmp 20) 26 rfl 0 5 i0 (.int .u8 0) 1 Tryz.underlying26 hi hz0 hz1 hz2 rfl _ 0 [] rfl (World.ownsRow_nil _ _ _ _) (subAt a c 10) q (c - 10) (bd.map bv) rfl (by simpa using hdl) hdn hdr (by intro u hu; obtain ⟨_, _, rfl⟩ := List.mem_map.1 hu; rfl) (by omega) (by omega) (Nat.zero_le _) ?_; intro v1 w1 hv1 hg1 hat1; rw [Nat.zero_add, List.nil_append] at hv1; have hgg : Grew (.slice none 0 0) w v1 w1 := Grew.append hg1 hat1; have hb1 : Below w.heap.size w w1 := hgg.1.below (fun k hk => by cases hk); obtain ⟨sa, sc, rfl, hsr, _⟩ := RowAt.of_owns hv1; have hO := HO.out w1 hb1 sa sc hsr (ownsRow_cap0 hv1))
      | (go_at_call 75; refine hO.mono ?_; rintro _ w2 ⟨U, rfl, hU, hb2⟩; obtain ⟨ua, uc, rfl, _, hun, hur⟩ := hU.row; have cv1 := HCV.out w2 ua uc _ hur; have hb12 := hb1.trans (hb2.mono hb1.size); have cv2 := HCV.out w2 a c b (HROW.out.below hb12)))
    · have h : (!oneL tn bd == b) = true := by assumption
      have hok : takeOk b = false := by
        rw [Bool.eq_false_iff]
        intro e
        have := (HOT.out (by rw [HTN.out] at hn; omega) (by omega)).2 e
        rw [this] at h
        simp at h
      go_ret3
      exact HBAD.out hok _ hb12
    · have h : (!oneL tn bd == b) = false := by assumption
      have hok : takeOk b = true := (HOT.out (by rw [HTN.out] at hn; omega) (by omega)).1 (by simpa using h)
      go_ret3
      refine .inl ⟨hok, .slice sa q sc, by rw [HTN.out]; rfl, ?_, hb12⟩
      rw [HTB.out]
      have hbase : w1.ownsRow w.heap.size 5 1 (.slice sa q sc) q (bd.map bv) := ownsRow_from hv1 (fun g hg => by
        rcases hgg.2 with h | ⟨g', h, hle⟩
        · rw [h] at hg; cases hg
        · rw [h] at hg; cases hg; exact hle)
      exact (BytesIn.of_owns (R := fun x => w.heap.size ≤ x) hbase (fun b h _ => h)).kept (Chg.of_below (O := fun _ => False) hb2) (fun _ _ h => h) (fun _ h => h)
  · have hok : takeOk b = false := by rw [Bool.eq_false_iff]; intro h; exact hn ((takeOk_iff b).1 h).2.2.2
    have hsb : sgn (takeN b) < 0 ∨ 4611686018427387904 < sgn (takeN b) := by rcases hns with h | h; exact .inr (by rw [h.1]; omega); exact .inl h.1
    obtain ⟨sv, hsv⟩ : ∃ sv, sgn (takeN b) = sv := ⟨_, rfl⟩
    rw [hsv] at hF hsb
    have hO := fun W a2 c2 => rone_bad (w := W) (n := sv) (a := a2) (c := c2) (len := q) (by omega)
    have hql : q ≤ 4096 := by omega
    have HOK := Lib.hid hok
    have HBAD := Lib.hid bad
    clear hns hN2 hq hok hsb hsv bad hot htb hbd hn
    go_enter Tryz.func141, Tryz.ntmps141
    go_wp2_with (first
      | (go_at_call 180; refine hF.mono ?_; rintro _ wz ⟨rfl, rfl⟩)
      | (at_builtin; refine wpList_append_src_at _ rfl (.const (.slice none 0 0)) (.tmp 20) 26 rfl 0 5 i0 (.int .u8 0) 1 Tryz.underlying26 hi hz0 hz1 hz2 rfl _ 0 [] rfl (World.ownsRow_nil _ _ _ _) (subAt a c 10) q (c - 10) (bd.map bv) rfl (by simpa using hdl) hdn hdr (by intro u hu; obtain ⟨_, _, rfl⟩ := List.mem_map.1 hu; rfl) (by omega) (by omega) (Nat.zero_le _) ?_; intro v1 w1 hv1 hg1 hat1; rw [Nat.zero_add, List.nil_append] at hv1; have hgg : Grew (.slice none 0 0) w v1 w1 := Grew.append hg1 hat1; have hb1 : Below w.heap.size w w1 := hgg.1.below (fun k hk => by cases hk); obtain ⟨sa, sc, rfl, hsr, _⟩ := RowAt.of_owns hv1)
      | (go_at_call 75; refine (hO _ _ _).mono ?_; rintro _ w2 ⟨er, rfl, her, rfl⟩))
    go_ret3
    exact HBAD.out HOK.out _ hb1

end Go.Proofs.YtlmdpcaikhdenaaGreat
