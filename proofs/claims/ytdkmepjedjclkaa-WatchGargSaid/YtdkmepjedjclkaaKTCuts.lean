/-
  WatchCuts RETURNS TRUE. Conditions: none.
-/
import Derived.Test.YtdkmepjedjclkaaKMove
import Derived.Test.YtdkmepjedjclkaaKSDat
set_option linter.all false
namespace Go.Proofs.Ytdkmepjedjclkaa
open Go.AM
open Go.Proofs.Try (prog)
set_option linter.all false
set_option maxRecDepth 100000

/-- Where a list stands from a place on. -/
def fromI (rows : List (List Int)) (l : List Int) (i : Nat) : Int := match (rows.drop i).findIdx? (fun x => l == x) with | some j => (i : Int) + j | none => -1
end Go.Proofs.Ytdkmepjedjclkaa
