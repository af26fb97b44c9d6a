/- NamesTell: for any number and any two texts the law returns true: the names, what they are of, and their order are the reference's. -/
import Derived.Test.YtfoaoofaldiajaaNmK
namespace Go.Proofs.Ytfoaoofaldiajaa
open Go.RowKit Go.Maps

theorem nameAns_form (h : UInt8) (n : Int) : ∃ (x : ByteArray) (e : Int), nameAns h n = .tuple #[.string x, .int .i64 e] := by
  unfold nameAns
  split
  · exact ⟨_, _, rfl⟩
  · exact ⟨_, _, rfl⟩

set_option maxRecDepth 100000 in
set_option maxHeartbeats 1000000 in
theorem namesTell_walk (n : Int) (a b : List UInt8) (w : World) (hn : n ≤ 9223372036854775807) :
    Calls Try.prog 4 #[.int .i64 n, .string ⟨a.toArray⟩, .string ⟨b.toArray⟩] w fun e w' => e = .returned (.bool true) ∧ Below w.heap.size w w' := by
  have c1 := fun w => Journal_any n w hn
  have c2 := fun w => Segment_any n w hn
  have c3 := fun w => rJournal_any n w hn
  have c4 := fun w => rSegment_any n w hn
  obtain ⟨x, e, hx⟩ := nameAns_form 106 n
  obtain ⟨y, f, hy⟩ := nameAns_form 115 n
  simp only [hx] at c1 c3
  simp only [hy] at c2 c4
  clear hx hy hn
  have c5 := Parse_any a
  have c6 := rParse_any a
  have c7 := Kind_any a
  generalize parse a = p at c5 c6 c7
  have d1 := Compare_any a b
  have d2 := rCompare_any a b
  have d3 := Compare_any b a
  have d4 := rCompare_any b a
  have d5 := Compare_any a a
  have h0 : compareL a a = 0 := by
    have h1 : Lib.compareBytes a a = 0 := by
      have hl : ∀ l : List UInt8, Op.bytesLess l l = false := by
        intro l; induction l with
        | nil => rfl
        | cons c l ih => simp [Op.bytesLess, ih]
      rw [compareBytes_eq, hl]; simp
    simp [compareL, or3, cmpI, h1]
  rw [h0] at d5
  clear h0
  generalize compareL a b = u at d1 d2
  generalize compareL b a = v at d3 d4
  go_enter Try.func4, Try.ntmps4
  go_wp2_with fail
  refine (c1 _).mono ?_
  rintro _ w1 ⟨rfl, hb1⟩
  go_wp2_with fail
  refine (c2 _).mono ?_
  rintro _ w2 ⟨rfl, hb2⟩
  go_wp2_with fail
  refine (c3 _).mono ?_
  rintro _ w3 ⟨rfl, hb3⟩
  go_wp2_with fail
  refine (c4 _).mono ?_
  rintro _ w4 ⟨rfl, hb4⟩
  go_wp2_with fail
  refine (c5 _).mono ?_
  rintro _ w5 ⟨rfl, hb5⟩
  go_wp2_with fail
  refine (c6 _).mono ?_
  rintro _ w6 ⟨rfl, hb6⟩
  go_wp2_with fail
  refine (c7 _).mono ?_
  rintro _ w7 ⟨rfl, hb7⟩
  go_wp2_with fail
  refine (d1 _).mono ?_
  rintro _ w8 ⟨rfl, hb8⟩
  go_wp2_with fail
  refine (d2 _).mono ?_
  rintro _ w9 ⟨rfl, hb9⟩
  go_wp2_with fail
  refine (d3 _).mono ?_
  rintro _ w10 ⟨rfl, hb10⟩
  go_wp2_with fail
  refine (d4 _).mono ?_
  rintro _ w11 ⟨rfl, hb11⟩
  go_wp2_with fail
  refine (d5 _).mono ?_
  rintro _ w12 ⟨rfl, hb12⟩
  go_wp2_with fail
  refine (known_any _).mono ?_
  rintro _ w13 ⟨rfl, hb13⟩
  go_wp2
  go_ret
  exact ⟨rfl, by
    have t1 := bthen hb1 hb2
    have t2 := bthen t1 hb3
    have t3 := bthen t2 hb4
    have t4 := bthen t3 hb5
    have t5 := bthen t4 hb6
    have t6 := bthen t5 hb7
    have t7 := bthen t6 hb8
    have t8 := bthen t7 hb9
    have t9 := bthen t8 hb10
    have t10 := bthen t9 hb11
    have t11 := bthen t10 hb12
    exact bthen t11 hb13⟩

end Go.Proofs.Ytfoaoofaldiajaa
