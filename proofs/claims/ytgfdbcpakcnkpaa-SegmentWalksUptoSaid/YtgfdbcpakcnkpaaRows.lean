/-
  No cell of these rows narrows 'for every input' (looked for: loops, veiled, ifaces, maps, wideKeys, modest, calm, conditions, laid).
  DERIVED. THE GIVEN ROWS OF THIS SEAT. 3 by the template 'for every input the law returns true; each argument reads behind the call as it read before'; 0 by the template 'total and deterministic' (their statements: YtgfdbcpakcnkpaaTotals.lean).
  GIVEN WITH THE SEED: the statements are not yours to turn. If you find one false, say at which input.
  Laid BY PROGRAM, IN A SANDBOX (cutbox-rows.mjs): the forced cells as the released guide's own fill.sh prints them over the translation e6f64f0e7d92d4a2… (all of the seat's roots in one cut). By AI agents, Wed Nov 11 2026. No macro, syntax, notation, axiom, sorry.
-/
import Derived.Test.YtgfdbcpakcnkpaaChecked
import GoSem.Claim
import GoSem.ClaimJoined
import GoSem.ClaimMapViews
import Derived.JoinedTies
import Derived.KernelRfl
namespace Go.Proofs.Ytgfdbcpakcnkpaa
/- THE CELL 'sum', in the pinned program and in every row, IS THE sha256 OF THE DUMP (.gsa) THAT YtgfdbcpakcnkpaaProg.lean LOADS. Nothing in Lean hashes anything: it is a label: what it is worth is what the hold of that sum in a sandbox is worth. -/
noncomputable def Try.pinned : Pinned := { name := "ytgfdbcpakcnkpaa", sum := "e6f64f0e7d92d4a242c15ac06ed5400103009c008381663d3aef29d76a38c289", checked := Try.checked }
namespace Rows
def none {H : Type} : Left H := { results := [], args := [] }

/-- 'notarylaw04.DiskLasts': WHATEVER THE INPUT: true; the input reads as it did. -/
def diskLastsSpec : ChangeSpec := { name := "diskLasts", fn := fun _ => fun
  | [d1, d2, d3, d4, d5] => { results := [.lit (.bool true)], args := [d1, d2, d3, d4, d5] }
  | _ => none }
def diskLastsRow : OpenClaim := { program := "ytgfdbcpakcnkpaa", sum := "e6f64f0e7d92d4a242c15ac06ed5400103009c008381663d3aef29d76a38c289", func := "notary/notarylaw04.DiskLasts", spec := "diskLasts", inPlace := ["maps.clone"], unfollowed := true, recurses := true, apart := false }
def DiskLastsSaid : Prop := diskLastsRow.holds Try.pinned (OpenSpec.ofChange diskLastsSpec)

/-- ITS FALSE NEIGHBOUR: 'it returns false'. Refute it at one input. -/
def diskLastsWrong : ChangeSpec := { name := "diskLasts", fn := fun _ => fun
  | [d1, d2, d3, d4, d5] => { results := [.lit (.bool false)], args := [d1, d2, d3, d4, d5] }
  | _ => none }
def DiskLastsWrongFalsely : Prop := diskLastsRow.holds Try.pinned (OpenSpec.ofChange diskLastsWrong)

/-- 'notarylaw17.SegmentDecodes': WHATEVER THE INPUT: true; the input reads as it did. -/
def segmentDecodesSpec : ChangeSpec := { name := "segmentDecodes", fn := fun _ => fun
  | [d1, d2] => { results := [.lit (.bool true)], args := [d1, d2] }
  | _ => none }
def segmentDecodesRow : OpenClaim := { program := "ytgfdbcpakcnkpaa", sum := "e6f64f0e7d92d4a242c15ac06ed5400103009c008381663d3aef29d76a38c289", func := "notary/notarylaw17.SegmentDecodes", spec := "segmentDecodes", inPlace := ["maps.clone"], unfollowed := true, recurses := true, apart := false }
def SegmentDecodesSaid : Prop := segmentDecodesRow.holds Try.pinned (OpenSpec.ofChange segmentDecodesSpec)

/-- ITS FALSE NEIGHBOUR: 'it returns false'. Refute it at one input. -/
def segmentDecodesWrong : ChangeSpec := { name := "segmentDecodes", fn := fun _ => fun
  | [d1, d2] => { results := [.lit (.bool false)], args := [d1, d2] }
  | _ => none }
def SegmentDecodesWrongFalsely : Prop := segmentDecodesRow.holds Try.pinned (OpenSpec.ofChange segmentDecodesWrong)

/-- 'notarylaw17.SegmentWalks': WHATEVER THE INPUT: true; the input reads as it did. -/
def segmentWalksSpec : ChangeSpec := { name := "segmentWalks", fn := fun _ => fun
  | [d1, d2] => { results := [.lit (.bool true)], args := [d1, d2] }
  | _ => none }
def segmentWalksRow : OpenClaim := { program := "ytgfdbcpakcnkpaa", sum := "e6f64f0e7d92d4a242c15ac06ed5400103009c008381663d3aef29d76a38c289", func := "notary/notarylaw17.SegmentWalks", spec := "segmentWalks", inPlace := ["maps.clone"], unfollowed := true, recurses := true, apart := false }
def SegmentWalksSaid : Prop := segmentWalksRow.holds Try.pinned (OpenSpec.ofChange segmentWalksSpec)

/-- ITS FALSE NEIGHBOUR: 'it returns false'. Refute it at one input. -/
def segmentWalksWrong : ChangeSpec := { name := "segmentWalks", fn := fun _ => fun
  | [d1, d2] => { results := [.lit (.bool false)], args := [d1, d2] }
  | _ => none }
def SegmentWalksWrongFalsely : Prop := segmentWalksRow.holds Try.pinned (OpenSpec.ofChange segmentWalksWrong)

/- THE SECOND FORM. 'bulk': how many values and letters a reading holds, each counted each time it is reached (what is shared counts as often as it is met; a slice's spare places count too). A statement '..UptoSaid' is the law's where the arguments, and the package variables that the reading takes, are together of bulk at most 1048576: NARROWER than '..Said'. Prove '..Said' where nothing that the law and all that it calls make is longer than what came in: it says more and counts as full. Else prove '..UptoSaid'. A law counts once. -/
mutual
def uptoBulk {H : Type} : DataW H → Nat
  | .lit (.string bytes) => bytes.length + 1
  | .lit _ => 1
  | .nil => 1
  | .ptr d => uptoBulk d + 1
  | .slice elems spare => uptoBulkAll elems + uptoBulkAll spare + 1
  | .agg parts => uptoBulkAll parts + 1
  | .iface _ d => uptoBulk d + 1
  | .map entries => uptoBulkEntries entries + 1
  | .held _ => 1
def uptoBulkAll {H : Type} : List (DataW H) → Nat
  | [] => 0
  | d :: r => uptoBulk d + uptoBulkAll r
def uptoBulkEntries {H : Type} : List (Lit × DataW H) → Nat
  | [] => 0
  | x :: r => uptoBulkEntry x + uptoBulkEntries r
def uptoBulkEntry {H : Type} : Lit × DataW H → Nat
  | (.string bytes, d) => bytes.length + uptoBulk d + 1
  | (_, d) => uptoBulk d + 1
 end
def uptoSmall : (H : Type) → List (DataW H) → Bool := fun _ ds => decide (uptoBulkAll ds ≤ 1048576)
def OpenSpec.upto (s : _root_.Go.ChangeSpec) : _root_.Go.OpenSpec := { _root_.Go.OpenSpec.ofChange s with cond := some uptoSmall }

/-- 'notarylaw04.DiskLasts', WHERE WHAT IT READS IS OF BULK AT MOST 1048576: true; the input reads as it did. -/
def diskLastsUptoRow : OpenClaim := { program := "ytgfdbcpakcnkpaa", sum := "e6f64f0e7d92d4a242c15ac06ed5400103009c008381663d3aef29d76a38c289", func := "notary/notarylaw04.DiskLasts", spec := "diskLasts", inPlace := ["maps.clone"], unfollowed := true, recurses := true, apart := false, narrowed := true }
def DiskLastsUptoSaid : Prop := diskLastsUptoRow.holds Try.pinned (OpenSpec.upto diskLastsSpec)

/-- 'notarylaw17.SegmentDecodes', WHERE WHAT IT READS IS OF BULK AT MOST 1048576: true; the input reads as it did. -/
def segmentDecodesUptoRow : OpenClaim := { program := "ytgfdbcpakcnkpaa", sum := "e6f64f0e7d92d4a242c15ac06ed5400103009c008381663d3aef29d76a38c289", func := "notary/notarylaw17.SegmentDecodes", spec := "segmentDecodes", inPlace := ["maps.clone"], unfollowed := true, recurses := true, apart := false, narrowed := true }
def SegmentDecodesUptoSaid : Prop := segmentDecodesUptoRow.holds Try.pinned (OpenSpec.upto segmentDecodesSpec)

/-- 'notarylaw17.SegmentWalks', WHERE WHAT IT READS IS OF BULK AT MOST 1048576: true; the input reads as it did. -/
def segmentWalksUptoRow : OpenClaim := { program := "ytgfdbcpakcnkpaa", sum := "e6f64f0e7d92d4a242c15ac06ed5400103009c008381663d3aef29d76a38c289", func := "notary/notarylaw17.SegmentWalks", spec := "segmentWalks", inPlace := ["maps.clone"], unfollowed := true, recurses := true, apart := false, narrowed := true }
def SegmentWalksUptoSaid : Prop := segmentWalksUptoRow.holds Try.pinned (OpenSpec.upto segmentWalksSpec)

end Rows
end Go.Proofs.Ytgfdbcpakcnkpaa
