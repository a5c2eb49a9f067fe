/-
  A STORY MADE OF ARBITRARY NUMBERS (3): it is valid. Conditions: none.
-/
import Derived.Test.YtdkmepjedjclkaaKSMadeB
import Derived.Test.YtdkmepjedjclkaaKMove
set_option linter.all false
namespace Go.Proofs.Ytdkmepjedjclkaa
open Go.AM
open Go.Proofs.Try (prog)
set_option linter.all false
set_option maxRecDepth 100000

end Go.Proofs.Ytdkmepjedjclkaa
