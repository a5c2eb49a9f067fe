/-
  WHAT THE LAWS' ARGUMENTS ARE: numbers, lists of numbers, stories. Conditions: none.
-/
import Derived.Test.YtdkmepjedjclkaaKAmF
import Derived.Test.YtdkmepjedjclkaaKRef
set_option linter.all false
namespace Go.Proofs.Ytdkmepjedjclkaa
open Go.AM
open Go.Proofs.Try (prog)
set_option linter.all false
set_option maxRecDepth 10000

def I64 (n : Int) : Prop := -9223372036854775808 ≤ n ∧ n ≤ 9223372036854775807
end Go.Proofs.Ytdkmepjedjclkaa
