/- Disk: a copy of bytes; what a pending write does to bytes. -/
import Derived.Test.YtgckcnnnblggbaaDk8
import Derived.Laws.CopyOwn
import Derived.Deep.OwnRows
import Derived.Lib.SliceRun
import Derived.StillTailTactics
namespace Go.Proofs.Ytgckcnnnblggbaa
open Go.RowKit Go.Maps

theorem Try.info5 : (Try.prog.info? 5).map (fun i => (i.zero, i.size, i.bytes)) = some (some (.int .u8 0), 1, 1) := by kernel_rfl

/-- the blocks that are new -/
def NewIn (w w' : World) : Nat → Prop := fun b => w.heap.size ≤ b ∧ b < w'.heap.size
theorem BytesIn.of_owns {w : World} {R : Nat → Prop} {base : Nat} {v : Value} {n : Nat} {l : List UInt8} (h : w.ownsRow base 5 1 v n (l.map bv)) (hR : ∀ b, base ≤ b → b < w.heap.size → R b) : BytesIn w R v l := by
  obtain ⟨a, c, rfl, hr, hl⟩ := RowAt.of_owns h
  have hn : l.length = n := by simpa using hl
  subst hn
  refine ⟨a, c, rfl, ownsRow_len_cap h, ownsRow_cap0 h, hr, fun _ x hx => ?_, fun x hx => ?_⟩
  · subst hx
    have := h.lt x.block rfl
    exact hR _ this.1 this.2
  · subst hx
    rcases h.2 with ⟨e, _⟩ | ⟨g, cap, cur, e, _⟩
    · cases e
    · cases e; rfl
theorem BytesIn.row {w : World} {R : Nat → Prop} {v : Value} {l : List UInt8} (h : BytesIn w R v l) : ∃ a c, v = .slice a l.length c ∧ l.length ≤ c ∧ (a = none → c = 0) ∧ RowAt w a (l.map bv) := by
  obtain ⟨a, c, h1, h2, h3, h4, _⟩ := h; exact ⟨a, c, h1, h2, h3, h4⟩

set_option maxRecDepth 100000 in
set_option maxHeartbeats 1000000 in
theorem clone_any (a : Option Addr) (c : Nat) (l : List UInt8) (w : World) (hnil : a = none → c = 0) (hrow : RowAt w a (l.map bv)) (hl : l.length ≤ 140737488355328) :
    Calls Try.prog 32 #[.slice a l.length c] w fun e w' => ∃ v, e = .returned v ∧ BytesIn w' (NewIn w w') v l ∧ Below w.heap.size w w' := by
  obtain ⟨i0, hi, hz0, hz1, hz2⟩ := info_parts Try.info5
  have hq : ∀ (w : World) (a : Option Addr) (n c n' c' : Nat), (binOp .eql 28 (.slice a n c) (.slice none n' c')).run Try.prog w = .ok (.bool a.isNone) w := fun w a n c n' c' => Lib.run_eql_slice_nil w _ _ a n c n' c' Try.underlying28
  cases a with
  | none =>
    obtain rfl := hnil rfl
    have hl0 : l = [] := by
      by_cases h : l = []
      · exact h
      · obtain ⟨b, off, e, _⟩ := hrow (by simpa using h); cases e
    subst hl0
    go_enter Try.func32, Try.ntmps32
    go_wp2
    go_ret
    exact ⟨_, rfl, BytesIn.nil _ _, Below.refl _ _⟩
  | some x =>
    have hm : maxLen = 9223372036854775807 := rfl
    go_enter Try.func32, Try.ntmps32
    go_wp2_with (at_builtin; go_loud (refine wpList_append_any _ rfl (.tmp 5) (.tmp 6) 28 rfl w.heap.size 5 i0 (.int .u8 0) 1 Try.underlying28 hi hz0 hz1 hz2 rfl _ 0 [] rfl (World.ownsRow_made w #[] 0 (Nat.le_refl _) (Nat.zero_le _) (by simp)) (some x) l.length c (l.map bv) rfl (by simp) hnil (hrow.below (below_alloc w _)) (by intro u hu; obtain ⟨_, _, rfl⟩ := List.mem_map.1 hu; rfl) (by omega) (by omega) (by rw [World.size_alloc]; omega) ?_))
    intro v1 w1 hown1 hg1
    have hown1 : w1.ownsRow w.heap.size 5 1 v1 l.length (l.map bv) := by simpa using hown1
    have hb : Below w.heap.size w w1 := (below_alloc w _).grown hg1 (by rw [World.size_alloc]; omega) (by intro k hk; simp [Value.ownBlock] at hk; omega)
    obtain ⟨sa, sc, rfl, _, _⟩ := RowAt.of_owns hown1
    go_wp2
    go_ret
    exact ⟨_, rfl, BytesIn.of_owns hown1 (fun b h1 h2 => ⟨h1, h2⟩), hb⟩

end Go.Proofs.Ytgckcnnnblggbaa
