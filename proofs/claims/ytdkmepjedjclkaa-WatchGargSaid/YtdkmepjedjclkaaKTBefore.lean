/-
  WatchBefore RETURNS TRUE. Conditions: none.
-/
import Derived.Test.YtdkmepjedjclkaaKClk
import Derived.Test.YtdkmepjedjclkaaKSDat
set_option linter.all false
namespace Go.Proofs.Ytdkmepjedjclkaa
open Go.AM
open Go.Proofs.Try (prog)
set_option linter.all false
set_option maxRecDepth 100000
set_option maxHeartbeats 4000000

theorem load_row {R : List (List Int)} {i : Nat} (h : i < R.length) : loadF false 1 (.fptr (flatC rowC (R.drop i))) = some (.fsl false (cth R i).length (ints (cth R i))) := by
  rw [flatC_at (cth_eq h)]; simp [rowC]
@[simp] theorem clkV_closed (C : List (List (List Int))) : (clkV C).closed = true := rfl
@[simp] theorem clkV_one (C : List (List (List Int))) : (clkV C).one = true := rfl
@[simp] theorem clkV_cells (C : List (List (List Int))) : (clkV C).cells = [clkV C] := rfl
@[simp] theorem clkV_deep (C : List (List (List Int))) (h : Nat → Option AObj) (d : Nat) : deep h (d + 1) (clkV C) = some (clkV C) := rfl

end Go.Proofs.Ytdkmepjedjclkaa
