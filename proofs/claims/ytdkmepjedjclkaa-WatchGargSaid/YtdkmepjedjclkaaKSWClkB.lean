/-
  watch.Clocks: WHAT IT COMPUTES. Conditions: none.
-/
import Derived.Test.YtdkmepjedjclkaaKSWClkA
set_option linter.all false
namespace Go.Proofs.Ytdkmepjedjclkaa
open Go.AM
open Go.Proofs.Try (prog)
set_option linter.all false
set_option maxRecDepth 100000
set_option maxHeartbeats 4000000

end Go.Proofs.Ytdkmepjedjclkaa
