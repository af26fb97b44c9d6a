/- NamesRise: of two numbers the names rise as they do; they are told back; a name with one byte otherwise is another one's, or none's. -/
import Derived.Test.YtfoaoofaldiajaaNmT
import Derived.Deep.QuietTactic
import Derived.BigQuiet
namespace Go.Proofs.Ytfoaoofaldiajaa
open Go.RowKit Go.Maps

theorem Journal_neg (x : Int) (h : x < 0) (w : World) : Calls Try.prog 13 #[.int .i64 x] w fun e w' => e = .returned (.tuple #[.string ⟨#[]⟩, .int .i64 4]) ∧ Below w.heap.size w w' := by
  have := Journal_any x w (by omega)
  simpa only [nameAns, h, if_true] using this
theorem Segment_neg (x : Int) (h : x < 0) (w : World) : Calls Try.prog 14 #[.int .i64 x] w fun e w' => e = .returned (.tuple #[.string ⟨#[]⟩, .int .i64 4]) ∧ Below w.heap.size w w' := by
  have := Segment_any x w (by omega)
  simpa only [nameAns, h, if_true] using this
theorem Journal_pos (n : Nat) (h : (n : Int) ≤ 9223372036854775807) (w : World) : Calls Try.prog 13 #[.int .i64 n] w fun e w' => e = .returned (.tuple #[.string ⟨(nameL 106 n 16).toArray⟩, .int .i64 0]) ∧ Below w.heap.size w w' := by
  have := Journal_any n w h
  have h0 : ¬ (n : Int) < 0 := by omega
  simpa only [nameAns, h0, if_false, Int.toNat_natCast] using this
theorem Segment_pos (n : Nat) (h : (n : Int) ≤ 9223372036854775807) (w : World) : Calls Try.prog 14 #[.int .i64 n] w fun e w' => e = .returned (.tuple #[.string ⟨(nameL 115 n 16).toArray⟩, .int .i64 0]) ∧ Below w.heap.size w w' := by
  have := Segment_any n w h
  have h0 : ¬ (n : Int) < 0 := by omega
  simpa only [nameAns, h0, if_false, Int.toNat_natCast] using this

set_option maxRecDepth 100000 in
set_option maxHeartbeats 1000000 in
theorem namesRise_neg (a b : Int) (p : Int) (c : Int) (w : World) (h : a < 0 ∨ b < 0) :
    Calls Try.prog 5 #[.int .i64 a, .int .i64 b, .agg #[.int .i64 p, .int .u8 c]] w fun e w' => e = .returned (.bool true) ∧ Below w.heap.size w w' := by
  rcases h with h | h
  all_goals
    go_enter Try.func5, Try.ntmps5
    go_wp2_with (first | (go_at_call 13; refine (Journal_neg _ (by omega) _).mono ?_; rintro e w1 ⟨rfl, hb1⟩) | (go_at_call 14; refine (Segment_neg _ (by omega) _).mono ?_; rintro e w2 ⟨rfl, hb2⟩) | (go_at_call 6; refine (known_any _).mono ?_; rintro e w3 ⟨rfl, hb3⟩))
    all_goals
      go_ret
      exact ⟨rfl, bthen (bthen (bthen ((Below.refl _ _).alloc (Nat.le_refl _) _) hb1) hb2) hb3⟩

theorem parse_set2 (a : Nat) (ha : a < 9223372036854775808) (i : Nat) (hi : i < 17) (c : UInt8) (hc : (nameL 106 a 16)[i]? ≠ some c) :
    (parse ((nameL 106 a 16).set i c) = (0, 0)) ∨ (parse ((nameL 106 a 16).set i c) = (2, a)) ∨ (∃ n, parse ((nameL 106 a 16).set i c) = (1, n) ∧ n ≠ a) :=
  parse_set a ha i hi c (fun e => hc (by rw [← e]; simp))

set_option maxRecDepth 100000 in
set_option maxHeartbeats 2000000 in
theorem namesRise_pos (a b : Nat) (p : Int) (c : UInt8) (w : World) (ha : (a : Int) ≤ 9223372036854775807) (hb : (b : Int) ≤ 9223372036854775807) (i : Nat) (hi : i < 17) (hp : (p.tmod 17 + 17).tmod 17 = i) :
    Calls Try.prog 5 #[.int .i64 a, .int .i64 b, .agg #[.int .i64 p, .int .u8 c.toNat]] w fun e w' => e = .returned (.bool true) ∧ Below w.heap.size w w' := by
  have ha' : a < 9223372036854775808 := by omega
  have hb' : b < 9223372036854775808 := by omega
  have j1 := Journal_pos a ha
  have j2 := Journal_pos b hb
  have s1 := Segment_pos a ha
  have s2 := Segment_pos b hb
  have p1 := Parse_any (nameL 106 a 16)
  have p2 := Parse_any (nameL 115 b 16)
  rw [parse_j a ha'] at p1
  rw [parse_s b hb'] at p2
  have l1 := less_name 106 a b ha' hb'
  have l2 := less_name 115 a b ha' hb'
  have q1 := Compare_any (nameL 106 a 16) (nameL 106 b 16)
  have q2 := Compare_any (nameL 115 a 16) (nameL 115 b 16)
  have q3 := Compare_any (nameL 106 a 16) (nameL 115 b 16)
  rw [compare_jj a b ha' hb'] at q1
  rw [compare_ss a b ha' hb'] at q2
  rw [compare_js a b ha' hb'] at q3
  have n1 := nameL_len 106 a 16
  have n2 := nameL_len 115 a 16
  have hset := parse_set2 a ha' i hi c
  generalize nameL 106 a 16 = J at *
  generalize nameL 106 b 16 = K at *
  generalize nameL 115 a 16 = S at *
  generalize nameL 115 b 16 = T at *
  have N1 := Lib.hid n1
  have N2 := Lib.hid n2
  have b1 : ((J.length : Int) != 17) = false := by simp; omega
  have b2 : ((S.length : Int) != 17) = false := by simp; omega
  clear n1 n2
  have HS := Lib.hid hset; clear hset
  have HP := Lib.hid hp; clear hp
  have hr : (cmpI a b = -1 ∧ a < b) ∨ (cmpI a b = 0 ∧ a = b) ∨ (cmpI a b = 1 ∧ b < a) := by unfold cmpI; grind
  generalize cmpI a b = z at *
  have e1 : decide (z < 0) = decide (a < b) := by grind
  have e2 : decide (0 < z) = decide (b < a) := by grind
  have HR := Lib.hid hr; clear hr
  go_enter Try.func5, Try.ntmps5
  go_wp2_with fail
  refine (j1 _).mono ?_
  rintro _ w1 ⟨rfl, hb1⟩
  go_wp2_with fail
  refine (j2 _).mono ?_
  rintro _ w2 ⟨rfl, hb2⟩
  go_wp2_with fail
  refine (s1 _).mono ?_
  rintro _ w3 ⟨rfl, hb3⟩
  go_wp2_with fail
  refine (s2 _).mono ?_
  rintro _ w4 ⟨rfl, hb4⟩
  go_wp2_with fail
  refine (p1 _).mono ?_
  rintro _ w5 ⟨rfl, hb5⟩
  go_wp2_with fail
  refine (p2 _).mono ?_
  rintro _ w6 ⟨rfl, hb6⟩
  go_wp2_with fail
  refine (q1 _).mono ?_
  rintro _ w7 ⟨rfl, hb7⟩
  go_wp2_with fail
  refine (q2 _).mono ?_
  rintro _ w8 ⟨rfl, hb8⟩
  go_wp2_with fail
  refine (q3 _).mono ?_
  rintro _ w9 ⟨rfl, hb9⟩
  clear j1 j2 s1 s2 p1 p2 q1 q2 q3
  have hz := bthen (bthen (bthen (bthen (bthen (bthen (bthen (bthen hb1 hb2) hb3) hb4) hb5) hb6) hb7) hb8) hb9
  clear hb1 hb2 hb3 hb4 hb5 hb6 hb7 hb8 hb9
  have hsz := hz.size
  rw [World.size_alloc] at hsz
  have hp0 : w9.cell? ⟨w.heap.size, 0, none⟩ = some (.int .i64 p) := (hz.cell (p := ⟨w.heap.size, 0, none⟩) (by simp)).trans (cell_new _ _ _ _ _ rfl)
  have hp1 : w9.cell? ⟨w.heap.size, 1, none⟩ = some (.int .u8 c.toNat) := (hz.cell (p := ⟨w.heap.size, 1, none⟩) (by simp)).trans (cell_new _ _ _ _ _ rfl)
  have HZ := Lib.hid hz; clear hz
  obtain ⟨cp, O, hcv, hcp, hcell, hfroz⟩ := run_bytes_of 9 50 5 Try.underlying9 Try.underlying50 Try.underlying5 J w9
  have hq0 : (w9.alloc O).cell? ⟨w.heap.size, 0, none⟩ = some (.int .i64 p) := (World.cell?_alloc_past _ _ _ (by show w.heap.size < _; omega)).trans hp0
  have hq1 : (w9.alloc O).cell? ⟨w.heap.size, 1, none⟩ = some (.int .u8 c.toNat) := (World.cell?_alloc_past _ _ _ (by show w.heap.size < _; omega)).trans hp1
  have hiJ : i < J.length := by rw [N1.out]; exact hi
  have hci := hcell i hiJ
  have hfi := hfroz i hiJ
  have HC := Lib.hid hcell; clear hcell
  have HF := Lib.hid hfroz; clear hfroz
  clear hp0 hp1
  have hm : (wrap64 (p.tmod 17 + 17)).tmod 17 = i := by
    have h1 := Int.tmod_lt_of_pos p (by decide : (0:Int) < 17)
    have h2 := Int.lt_tmod_of_pos p (by decide : (0:Int) < 17)
    rw [← IntWalk.i64_left, IntWalk.i64_in _ ⟨by omega, by omega⟩]; exact HP.out
  have hi0 : (i : Int) < J.length := by omega
  have hci2 := hci
  simp only [bv] at hci
  generalize hch : J[i] = ch at hci hci2
  by_cases heq : ch = c
  · have hbq : ((ch.toNat : Int) == (c.toNat : Int)) = true := by simp [heq]
    have HE := Lib.hid heq; clear heq
    have HCH := Lib.hid hch; clear hch
    go_wp2
    go_quiet (fail)
    go_wp2_with (go_at_call 6; refine (known_any _).mono ?_; rintro e w10 ⟨rfl, hb10⟩)
    go_ret
    refine ⟨rfl, ?_⟩
    have hx := ((((Below.refl _ _).alloc (Nat.le_refl _) _).trans (HZ.out.mono (by simp))).alloc (by omega) O).drew
    exact bthen (below_drewN (((((Below.refl _ _).alloc (Nat.le_refl _) _).trans (HZ.out.mono (by simp))).alloc (by omega) O)) _) hb10
  · have hbq : ((ch.toNat : Int) == (c.toNat : Int)) = false := by
      rw [beq_eq_false_iff_ne]; intro e; exact heq (UInt8.toNat_inj.1 (by omega))
    have hj : J[i]? ≠ some c := by rw [List.getElem?_eq_getElem hiJ, hch]; intro e; exact heq (Option.some.inj e)
    have hset := HS.out hj
    have HJ := Lib.hid hset; clear hset
    have pS := Parse_any (J.set i c)
    have hcb : ∀ m, (convert 50 9 (.slice (some ⟨w9.heap.size, 0, none⟩) J.length cp)).run Try.prog (((w9.alloc O).drewN m).setCell ⟨w9.heap.size, i, none⟩ (.int .u8 c.toNat)) = Result.ok (.string ⟨(J.set i c).toArray⟩) (((w9.alloc O).drewN m).setCell ⟨w9.heap.size, i, none⟩ (.int .u8 c.toNat)) := by
      intro m
      have := run_convert_bytes_back (P := Try.prog) (((w9.alloc O).drewN m).setCell ⟨w9.heap.size, i, none⟩ (.int .u8 c.toNat)) 50 9 5 ⟨w9.heap.size, 0, none⟩ cp (J.set i c) Try.underlying50 Try.underlying5 Try.underlying9 (fun j hj => by
        have hj' : j < J.length := by simpa using hj
        rw [addr_add]
        by_cases e : j = i
        · subst e
          rw [World.cell?_setCell_same' _ _ _ (by rw [show ((w9.alloc O).drewN m).cell? ⟨w9.heap.size, j, none⟩ = (w9.alloc O).cell? ⟨w9.heap.size, j, none⟩ from rfl, HC.out j hj']; rfl)]
          simp
        · rw [World.cell?_setCell_other _ _ _ _ (by rintro ⟨⟩; exact e rfl), show ((w9.alloc O).drewN m).cell? ⟨w9.heap.size, j, none⟩ = (w9.alloc O).cell? ⟨w9.heap.size, j, none⟩ from rfl, HC.out j hj']
          simp [bv, List.getElem_set, Ne.symm e])
      rw [List.length_set] at this
      exact this
    have HE := Lib.hid heq; clear heq hj
    have HCH := Lib.hid hch; clear hch
    go_wp2
    go_quiet (fail)
    go_wp2_with fail
    refine (pS _).mono ?_
    rintro e w10 ⟨rfl, hb10⟩
    have hbel : Below w.heap.size w w10 := bthen ((below_drewN (((((Below.refl _ _).alloc (Nat.le_refl _) _).trans (HZ.out.mono (by simp))).alloc (by omega) O)) _).setCell (p := ⟨w9.heap.size, i, none⟩) (by show w.heap.size ≤ w9.heap.size; omega) _) hb10
    rcases HJ.out with h0 | h0 | ⟨n, h0, hn⟩
    · rw [h0]
      go_wp2_with (go_at_call 6; refine (known_any _).mono ?_; rintro e w11 ⟨rfl, hb11⟩)
      go_ret
      exact ⟨rfl, bthen hbel hb11⟩
    · rw [h0]
      go_wp2_with (go_at_call 6; refine (known_any _).mono ?_; rintro e w11 ⟨rfl, hb11⟩)
      go_ret
      exact ⟨rfl, bthen hbel hb11⟩
    · rw [h0]
      have hnb : ((n : Int) != (a : Int)) = true := by rw [bne_iff_ne]; omega
      clear hn
      go_wp2_with (go_at_call 6; refine (known_any _).mono ?_; rintro e w11 ⟨rfl, hb11⟩)
      go_ret
      exact ⟨rfl, bthen hbel hb11⟩

end Go.Proofs.Ytfoaoofaldiajaa
