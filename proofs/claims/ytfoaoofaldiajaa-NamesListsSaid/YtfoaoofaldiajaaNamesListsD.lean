/- NamesLists: the two walks joined. -/
import Derived.Test.YtfoaoofaldiajaaNamesListsB
import Derived.Test.YtfoaoofaldiajaaNamesListsC
namespace Go.Proofs.Ytfoaoofaldiajaa
open Go.RowKit

theorem namesLists_short (kind leave : Int) (a : Option Addr) (cap : Nat) (L : List (List UInt8)) (w : World) (hL : L.length ≤ 300) (hnil : a = none → cap = 0) (hrow : RowAt w a (L.map sv)) :
    Calls Try.prog 3 #[.int .i64 kind, .slice a L.length cap, .int .i64 leave] w fun e w' => e = .returned (.bool true) ∧ Below w.heap.size w w' := by
  by_cases h : IsNums kind L []
  · exact namesLists_none kind leave a cap L h w hL hnil hrow
  · exact namesLists_some kind leave a cap L h w hL hnil hrow

end Go.Proofs.Ytfoaoofaldiajaa
