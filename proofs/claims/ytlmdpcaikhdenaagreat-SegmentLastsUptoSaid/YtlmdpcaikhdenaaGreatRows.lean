/-
  No cell of these rows narrows 'for every input' (looked for: loops, veiled, ifaces, maps, wideKeys, modest, calm, conditions, laid).
  DERIVED. THE GIVEN ROWS OF THIS SEAT. 3 by the template 'for every input the law returns true; each argument reads behind the call as it read before'; 0 by the template 'total and deterministic' (their statements: YtlmdpcaikhdenaaGreatTotals.lean).
  GIVEN WITH THE SEED: the statements are not yours to turn. If you find one false, say at which input.
  Laid BY PROGRAM, IN A SANDBOX (cutbox-rows.mjs): the forced cells as the released guide's own fill.sh prints them over the translation 36991abd44be4582… (all of the seat's roots in one cut). By AI agents, Wed Nov 11 2026. No macro, syntax, notation, axiom, sorry.
-/
import Derived.Test.YtlmdpcaikhdenaaGreatChecked
import GoSem.Claim
import GoSem.ClaimJoined
import GoSem.ClaimMapViews
import Derived.JoinedTies
import Derived.KernelRfl
namespace Go.Proofs.YtlmdpcaikhdenaaGreat
/- THE CELL 'sum', in the pinned program and in every row, IS THE sha256 OF THE DUMP (.gsa) THAT YtlmdpcaikhdenaaGreatProg.lean LOADS. Nothing in Lean hashes anything: it is a label: what it is worth is what the hold of that sum in a sandbox is worth. -/
noncomputable def Tryz.pinned : Pinned := { name := "ytlmdpcaikhdenaagreat", sum := "36991abd44be458298a3259ed78be483f2493b1c4994b5a7f3b0bd84bd0ae10a", checked := Tryz.checked }
namespace Rows
def none {H : Type} : Left H := { results := [], args := [] }

/-- 'notarylaw17.SegmentEncodes': WHATEVER THE INPUT: true; the input reads as it did. -/
def segmentEncodesSpec : ChangeSpec := { name := "segmentEncodes", fn := fun _ => fun
  | [d1, d2] => { results := [.lit (.bool true)], args := [d1, d2] }
  | _ => none }
def segmentEncodesRow : OpenClaim := { program := "ytlmdpcaikhdenaagreat", sum := "36991abd44be458298a3259ed78be483f2493b1c4994b5a7f3b0bd84bd0ae10a", func := "notary/notarylaw17.SegmentEncodes", spec := "segmentEncodes", inPlace := ["maps.clone"], unfollowed := true, recurses := true, apart := false }
def SegmentEncodesSaid : Prop := segmentEncodesRow.holds Tryz.pinned (OpenSpec.ofChange segmentEncodesSpec)

/-- ITS FALSE NEIGHBOUR: 'it returns false'. Refute it at one input. -/
def segmentEncodesWrong : ChangeSpec := { name := "segmentEncodes", fn := fun _ => fun
  | [d1, d2] => { results := [.lit (.bool false)], args := [d1, d2] }
  | _ => none }
def SegmentEncodesWrongFalsely : Prop := segmentEncodesRow.holds Tryz.pinned (OpenSpec.ofChange segmentEncodesWrong)

/-- 'notarylaw17.SegmentLasts': WHATEVER THE INPUT: true; the input reads as it did. -/
def segmentLastsSpec : ChangeSpec := { name := "segmentLasts", fn := fun _ => fun
  | [d] => { results := [.lit (.bool true)], args := [d] }
  | _ => none }
def segmentLastsRow : OpenClaim := { program := "ytlmdpcaikhdenaagreat", sum := "36991abd44be458298a3259ed78be483f2493b1c4994b5a7f3b0bd84bd0ae10a", func := "notary/notarylaw17.SegmentLasts", spec := "segmentLasts", inPlace := ["maps.clone"], unfollowed := true, recurses := true, apart := false }
def SegmentLastsSaid : Prop := segmentLastsRow.holds Tryz.pinned (OpenSpec.ofChange segmentLastsSpec)

/-- ITS FALSE NEIGHBOUR: 'it returns false'. Refute it at one input. -/
def segmentLastsWrong : ChangeSpec := { name := "segmentLasts", fn := fun _ => fun
  | [d] => { results := [.lit (.bool false)], args := [d] }
  | _ => none }
def SegmentLastsWrongFalsely : Prop := segmentLastsRow.holds Tryz.pinned (OpenSpec.ofChange segmentLastsWrong)

/-- 'notarylaw17.SegmentPlays': WHATEVER THE INPUT: true; the input reads as it did. -/
def segmentPlaysSpec : ChangeSpec := { name := "segmentPlays", fn := fun _ => fun
  | [d1, d2] => { results := [.lit (.bool true)], args := [d1, d2] }
  | _ => none }
def segmentPlaysRow : OpenClaim := { program := "ytlmdpcaikhdenaagreat", sum := "36991abd44be458298a3259ed78be483f2493b1c4994b5a7f3b0bd84bd0ae10a", func := "notary/notarylaw17.SegmentPlays", spec := "segmentPlays", inPlace := ["maps.clone", "slices.overlaps[int64]"], unfollowed := true, recurses := true, apart := false }
def SegmentPlaysSaid : Prop := segmentPlaysRow.holds Tryz.pinned (OpenSpec.ofChange segmentPlaysSpec)

/-- ITS FALSE NEIGHBOUR: 'it returns false'. Refute it at one input. -/
def segmentPlaysWrong : ChangeSpec := { name := "segmentPlays", fn := fun _ => fun
  | [d1, d2] => { results := [.lit (.bool false)], args := [d1, d2] }
  | _ => none }
def SegmentPlaysWrongFalsely : Prop := segmentPlaysRow.holds Tryz.pinned (OpenSpec.ofChange segmentPlaysWrong)

/- THE SECOND FORM. 'bulk': how many values and letters a reading holds, each counted each time it is reached (what is shared counts as often as it is met; a slice's spare places count too). A statement '..UptoSaid' is the law's where the arguments, and the package variables that the reading takes, are together of bulk at most 1048576: NARROWER than '..Said'. Prove '..Said' where nothing that the law and all that it calls make is longer than what came in: it says more and counts as full. Else prove '..UptoSaid'. A law counts once. -/
mutual
def uptoBulk {H : Type} : DataW H → Nat
  | .lit (.string bytes) => bytes.length + 1
  | .lit _ => 1
  | .nil => 1
  | .ptr d => uptoBulk d + 1
  | .slice elems spare => uptoBulkAll elems + uptoBulkAll spare + 1
  | .agg parts => uptoBulkAll parts + 1
  | .iface _ d => uptoBulk d + 1
  | .map entries => uptoBulkEntries entries + 1
  | .held _ => 1
def uptoBulkAll {H : Type} : List (DataW H) → Nat
  | [] => 0
  | d :: r => uptoBulk d + uptoBulkAll r
def uptoBulkEntries {H : Type} : List (Lit × DataW H) → Nat
  | [] => 0
  | x :: r => uptoBulkEntry x + uptoBulkEntries r
def uptoBulkEntry {H : Type} : Lit × DataW H → Nat
  | (.string bytes, d) => bytes.length + uptoBulk d + 1
  | (_, d) => uptoBulk d + 1
 end
def uptoSmall : (H : Type) → List (DataW H) → Bool := fun _ ds => decide (uptoBulkAll ds ≤ 1048576)
def OpenSpec.upto (s : _root_.Go.ChangeSpec) : _root_.Go.OpenSpec := { _root_.Go.OpenSpec.ofChange s with cond := some uptoSmall }

/-- 'notarylaw17.SegmentEncodes', WHERE WHAT IT READS IS OF BULK AT MOST 1048576: true; the input reads as it did. -/
def segmentEncodesUptoRow : OpenClaim := { program := "ytlmdpcaikhdenaagreat", sum := "36991abd44be458298a3259ed78be483f2493b1c4994b5a7f3b0bd84bd0ae10a", func := "notary/notarylaw17.SegmentEncodes", spec := "segmentEncodes", inPlace := ["maps.clone"], unfollowed := true, recurses := true, apart := false, narrowed := true }
def SegmentEncodesUptoSaid : Prop := segmentEncodesUptoRow.holds Tryz.pinned (OpenSpec.upto segmentEncodesSpec)

/-- 'notarylaw17.SegmentLasts', WHERE WHAT IT READS IS OF BULK AT MOST 1048576: true; the input reads as it did. -/
def segmentLastsUptoRow : OpenClaim := { program := "ytlmdpcaikhdenaagreat", sum := "36991abd44be458298a3259ed78be483f2493b1c4994b5a7f3b0bd84bd0ae10a", func := "notary/notarylaw17.SegmentLasts", spec := "segmentLasts", inPlace := ["maps.clone"], unfollowed := true, recurses := true, apart := false, narrowed := true }
def SegmentLastsUptoSaid : Prop := segmentLastsUptoRow.holds Tryz.pinned (OpenSpec.upto segmentLastsSpec)

/-- 'notarylaw17.SegmentPlays', WHERE WHAT IT READS IS OF BULK AT MOST 1048576: true; the input reads as it did. -/
def segmentPlaysUptoRow : OpenClaim := { program := "ytlmdpcaikhdenaagreat", sum := "36991abd44be458298a3259ed78be483f2493b1c4994b5a7f3b0bd84bd0ae10a", func := "notary/notarylaw17.SegmentPlays", spec := "segmentPlays", inPlace := ["maps.clone", "slices.overlaps[int64]"], unfollowed := true, recurses := true, apart := false, narrowed := true }
def SegmentPlaysUptoSaid : Prop := segmentPlaysUptoRow.holds Tryz.pinned (OpenSpec.upto segmentPlaysSpec)

end Rows
end Go.Proofs.YtlmdpcaikhdenaaGreat
