/-
  Before, AND WHAT A DEED IS. Conditions: none.
-/
import Derived.Test.YtdkmepjedjclkaaKSLawE
import Derived.Test.YtdkmepjedjclkaaKTCuts
import Derived.Test.YtdkmepjedjclkaaKBBefore
set_option linter.all false
namespace Go.Proofs.Ytdkmepjedjclkaa
open Go.AM
open Go.Proofs.Try (prog)
set_option linter.all false
set_option maxRecDepth 100000
set_option maxHeartbeats 4000000

/-- What Before hands back. -/
inductive BefRes (D : List Int) (N : List Note) (a b c d : Int) : Bool → Int → Prop where
  | bad (h : ¬ ValidS D N) : BefRes D N a b c d false 1
  | form (v : ValidS D N) (h : (deedOk D a b && deedOk D c d) = false) : BefRes D N a b c d false 2
  | ok {K : List (List (List Int))} (v : ValidS D N) (h : deedOk D a b = true) (h' : deedOk D c d = true) (k : Clocks D N K) : BefRes D N a b c d (!decide ([a, b] = [c, d]) && decide (b ≤ kn K c.toNat (d.toNat - 1) a.toNat)) 0

end Go.Proofs.Ytdkmepjedjclkaa
