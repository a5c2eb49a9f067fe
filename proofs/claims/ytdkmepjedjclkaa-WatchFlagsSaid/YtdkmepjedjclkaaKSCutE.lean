/-
  CUTS OF A STORY THAT WAS MADE; Back and Forth of a valid story. Conditions: none.
-/
import Derived.Test.YtdkmepjedjclkaaKSMadeC
import Derived.Test.YtdkmepjedjclkaaKBLawB
set_option linter.all false
namespace Go.Proofs.Ytdkmepjedjclkaa
open Go.AM
open Go.Proofs.Try (prog)
set_option linter.all false
set_option maxRecDepth 100000
set_option maxHeartbeats 4000000

/-! ### Back and Forth of a valid story -/
def bl (D : List Int) (N : List Note) (l : List Int) : List Int := lastL ((cutsL D N).filter fun x => belowB x l)
def fl (D : List Int) (N : List Note) (l : List Int) : List Int := firstL ((cutsL D N).filter fun x => belowB l x)

section
variable {v vl : AV} {D l : List Int} {N : List Note}
end
end Go.Proofs.Ytdkmepjedjclkaa
