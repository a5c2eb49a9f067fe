/-
  WatchMattern RETURNS TRUE. Conditions: none.
-/
import Derived.Test.YtdkmepjedjclkaaKSWClkC
import Derived.Test.YtdkmepjedjclkaaKSCutE
import Derived.Test.YtdkmepjedjclkaaKBMatt
set_option linter.all false
namespace Go.Proofs.Ytdkmepjedjclkaa
open Go.AM
open Go.Proofs.Try (prog)
set_option linter.all false
set_option maxRecDepth 100000
set_option maxHeartbeats 4000000

section
variable {D : List Int} {N : List Note} {K : List (List (List Int))}
theorem cth_rowsN {n h i : Nat} (hi : i < (kth K h).length) : cth (rowsN K n h) i = (clk K h i).take n := by
  have := cth_eq hi
  simp [cth, rowsN, List.getD, List.getElem?_eq_getElem hi]
theorem rowsN_len {n h : Nat} : (rowsN K n h).length = (kth K h).length := by simp [rowsN]
variable {vD vN : AV}
end

end Go.Proofs.Ytdkmepjedjclkaa
