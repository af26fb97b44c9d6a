/-
  No cell of these rows narrows 'for every input' (looked for: loops, veiled, ifaces, maps, wideKeys, modest, calm, conditions, laid).
  DERIVED. THE GIVEN ROWS OF THIS SEAT. 3 by the template 'for every input the law returns true; each argument reads behind the call as it read before'; 0 by the template 'total and deterministic' (their statements: YtfoaoofaldiajaaTotals.lean).
  GIVEN WITH THE SEED: the statements are not yours to turn. If you find one false, say at which input.
  Laid BY PROGRAM, IN A SANDBOX (cutbox-rows.mjs): the forced cells as the released guide's own fill.sh prints them over the translation 3c25c72150868736… (all of the seat's roots in one cut). By AI agents, Wed Nov 11 2026. No macro, syntax, notation, axiom, sorry.
-/
import Derived.Test.YtfoaoofaldiajaaChecked
import GoSem.Claim
import GoSem.ClaimJoined
import GoSem.ClaimMapViews
import Derived.JoinedTies
import Derived.KernelRfl
namespace Go.Proofs.Ytfoaoofaldiajaa
/- THE CELL 'sum', in the pinned program and in every row, IS THE sha256 OF THE DUMP (.gsa) THAT YtfoaoofaldiajaaProg.lean LOADS. Nothing in Lean hashes anything: it is a label: what it is worth is what the hold of that sum in a sandbox is worth. -/
noncomputable def Try.pinned : Pinned := { name := "ytfoaoofaldiajaa", sum := "3c25c7215086873649c861bb5659c360cd000f15127877d4749aae364dddcd3c", checked := Try.checked }
namespace Rows
def none {H : Type} : Left H := { results := [], args := [] }

/-- 'notarylaw06.NamesLists': WHATEVER THE INPUT: true; the input reads as it did. -/
def namesListsSpec : ChangeSpec := { name := "namesLists", fn := fun _ => fun
  | [d1, d2, d3] => { results := [.lit (.bool true)], args := [d1, d2, d3] }
  | _ => none }
def namesListsRow : OpenClaim := { program := "ytfoaoofaldiajaa", sum := "3c25c7215086873649c861bb5659c360cd000f15127877d4749aae364dddcd3c", func := "notary/notarylaw06.NamesLists", spec := "namesLists", inPlace := ["internal/bytealg.IndexByteString"], unfollowed := true, recurses := true, apart := false }
def NamesListsSaid : Prop := namesListsRow.holds Try.pinned (OpenSpec.ofChange namesListsSpec)

/-- ITS FALSE NEIGHBOUR: 'it returns false'. Refute it at one input. -/
def namesListsWrong : ChangeSpec := { name := "namesLists", fn := fun _ => fun
  | [d1, d2, d3] => { results := [.lit (.bool false)], args := [d1, d2, d3] }
  | _ => none }
def NamesListsWrongFalsely : Prop := namesListsRow.holds Try.pinned (OpenSpec.ofChange namesListsWrong)

/-- 'notarylaw06.NamesTell': WHATEVER THE INPUT: true; the input reads as it did. -/
def namesTellSpec : ChangeSpec := { name := "namesTell", fn := fun _ => fun
  | [d1, d2, d3] => { results := [.lit (.bool true)], args := [d1, d2, d3] }
  | _ => none }
def namesTellRow : OpenClaim := { program := "ytfoaoofaldiajaa", sum := "3c25c7215086873649c861bb5659c360cd000f15127877d4749aae364dddcd3c", func := "notary/notarylaw06.NamesTell", spec := "namesTell", inPlace := ["internal/bytealg.IndexByteString", "internal/bytealg.abigen_runtime_cmpstring"], unfollowed := true, recurses := true, apart := false }
def NamesTellSaid : Prop := namesTellRow.holds Try.pinned (OpenSpec.ofChange namesTellSpec)

/-- ITS FALSE NEIGHBOUR: 'it returns false'. Refute it at one input. -/
def namesTellWrong : ChangeSpec := { name := "namesTell", fn := fun _ => fun
  | [d1, d2, d3] => { results := [.lit (.bool false)], args := [d1, d2, d3] }
  | _ => none }
def NamesTellWrongFalsely : Prop := namesTellRow.holds Try.pinned (OpenSpec.ofChange namesTellWrong)

/-- 'notarylaw06.NamesRise': WHATEVER THE INPUT: true; the input reads as it did. -/
def namesRiseSpec : ChangeSpec := { name := "namesRise", fn := fun _ => fun
  | [d1, d2, d3] => { results := [.lit (.bool true)], args := [d1, d2, d3] }
  | _ => none }
def namesRiseRow : OpenClaim := { program := "ytfoaoofaldiajaa", sum := "3c25c7215086873649c861bb5659c360cd000f15127877d4749aae364dddcd3c", func := "notary/notarylaw06.NamesRise", spec := "namesRise", inPlace := ["internal/bytealg.IndexByteString", "internal/bytealg.abigen_runtime_cmpstring"], unfollowed := true, recurses := true, apart := false }
def NamesRiseSaid : Prop := namesRiseRow.holds Try.pinned (OpenSpec.ofChange namesRiseSpec)

/-- ITS FALSE NEIGHBOUR: 'it returns false'. Refute it at one input. -/
def namesRiseWrong : ChangeSpec := { name := "namesRise", fn := fun _ => fun
  | [d1, d2, d3] => { results := [.lit (.bool false)], args := [d1, d2, d3] }
  | _ => none }
def NamesRiseWrongFalsely : Prop := namesRiseRow.holds Try.pinned (OpenSpec.ofChange namesRiseWrong)

/- THE SECOND FORM. 'bulk': how many values and letters a reading holds, each counted each time it is reached (what is shared counts as often as it is met; a slice's spare places count too). A statement '..UptoSaid' is the law's where the arguments, and the package variables that the reading takes, are together of bulk at most 1048576: NARROWER than '..Said'. Prove '..Said' where nothing that the law and all that it calls make is longer than what came in: it says more and counts as full. Else prove '..UptoSaid'. A law counts once. -/
mutual
def uptoBulk {H : Type} : DataW H → Nat
  | .lit (.string bytes) => bytes.length + 1
  | .lit _ => 1
  | .nil => 1
  | .ptr d => uptoBulk d + 1
  | .slice elems spare => uptoBulkAll elems + uptoBulkAll spare + 1
  | .agg parts => uptoBulkAll parts + 1
  | .iface _ d => uptoBulk d + 1
  | .map entries => uptoBulkEntries entries + 1
  | .held _ => 1
def uptoBulkAll {H : Type} : List (DataW H) → Nat
  | [] => 0
  | d :: r => uptoBulk d + uptoBulkAll r
def uptoBulkEntries {H : Type} : List (Lit × DataW H) → Nat
  | [] => 0
  | x :: r => uptoBulkEntry x + uptoBulkEntries r
def uptoBulkEntry {H : Type} : Lit × DataW H → Nat
  | (.string bytes, d) => bytes.length + uptoBulk d + 1
  | (_, d) => uptoBulk d + 1
 end
def uptoSmall : (H : Type) → List (DataW H) → Bool := fun _ ds => decide (uptoBulkAll ds ≤ 1048576)
def OpenSpec.upto (s : _root_.Go.ChangeSpec) : _root_.Go.OpenSpec := { _root_.Go.OpenSpec.ofChange s with cond := some uptoSmall }

/-- 'notarylaw06.NamesLists', WHERE WHAT IT READS IS OF BULK AT MOST 1048576: true; the input reads as it did. -/
def namesListsUptoRow : OpenClaim := { program := "ytfoaoofaldiajaa", sum := "3c25c7215086873649c861bb5659c360cd000f15127877d4749aae364dddcd3c", func := "notary/notarylaw06.NamesLists", spec := "namesLists", inPlace := ["internal/bytealg.IndexByteString"], unfollowed := true, recurses := true, apart := false, narrowed := true }
def NamesListsUptoSaid : Prop := namesListsUptoRow.holds Try.pinned (OpenSpec.upto namesListsSpec)

/-- 'notarylaw06.NamesTell', WHERE WHAT IT READS IS OF BULK AT MOST 1048576: true; the input reads as it did. -/
def namesTellUptoRow : OpenClaim := { program := "ytfoaoofaldiajaa", sum := "3c25c7215086873649c861bb5659c360cd000f15127877d4749aae364dddcd3c", func := "notary/notarylaw06.NamesTell", spec := "namesTell", inPlace := ["internal/bytealg.IndexByteString", "internal/bytealg.abigen_runtime_cmpstring"], unfollowed := true, recurses := true, apart := false, narrowed := true }
def NamesTellUptoSaid : Prop := namesTellUptoRow.holds Try.pinned (OpenSpec.upto namesTellSpec)

/-- 'notarylaw06.NamesRise', WHERE WHAT IT READS IS OF BULK AT MOST 1048576: true; the input reads as it did. -/
def namesRiseUptoRow : OpenClaim := { program := "ytfoaoofaldiajaa", sum := "3c25c7215086873649c861bb5659c360cd000f15127877d4749aae364dddcd3c", func := "notary/notarylaw06.NamesRise", spec := "namesRise", inPlace := ["internal/bytealg.IndexByteString", "internal/bytealg.abigen_runtime_cmpstring"], unfollowed := true, recurses := true, apart := false, narrowed := true }
def NamesRiseUptoSaid : Prop := namesRiseUptoRow.holds Try.pinned (OpenSpec.upto namesRiseSpec)

end Rows
end Go.Proofs.Ytfoaoofaldiajaa
