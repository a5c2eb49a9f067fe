/-
  watch.Clocks: WHAT IT HANDS BACK. Conditions: none.
-/
import Derived.Test.YtdkmepjedjclkaaKSWClkB
set_option linter.all false
namespace Go.Proofs.Ytdkmepjedjclkaa
open Go.AM
open Go.Proofs.Try (prog)
set_option linter.all false
set_option maxRecDepth 100000
set_option maxHeartbeats 4000000

/-- A row as a value. -/
def slotV (K : List (List (List Int))) (n h : Nat) : AV := if rowsN K n h = [] then .nils else .fsl false (rowsN K n h).length (flatC rowC (rowsN K n h))
/-- The clocks as a value. -/
def wclkV (K : List (List (List Int))) (n : Nat) : AV := .fsl false n ((List.range n).map (slotV K n))
@[simp] theorem wclk_closed (K : List (List (List Int))) (n : Nat) : (wclkV K n).closed = true := rfl
@[simp] theorem wclk_one (K : List (List (List Int))) (n : Nat) : (wclkV K n).one = true := rfl
@[simp] theorem wclk_cells (K : List (List (List Int))) (n : Nat) : (wclkV K n).cells = [wclkV K n] := rfl
@[simp] theorem wclk_deep (K : List (List (List Int))) (n : Nat) (h : Nat → Option AObj) (d : Nat) : deep h (d + 1) (wclkV K n) = some (wclkV K n) := rfl
@[simp] theorem wclk_len (K : List (List (List Int))) (n : Nat) : lenSl (wclkV K n) = some (.int .i64 n) := rfl
@[simp] theorem wclk_frz (K : List (List (List Int))) (n : Nat) (m : Mem) : frzV (wclkV K n) m = some (wclkV K n, m) := rfl

/-- What Clocks hands back. -/
inductive ClkRes (D : List Int) (N : List Note) : AV → Int → Prop where
  | bad (h : ¬ ValidS D N) : ClkRes D N .nils 1
  | ok {K : List (List (List Int))} (v : ValidS D N) (k : Clocks D N K) : ClkRes D N (wclkV K D.length) 0

end Go.Proofs.Ytdkmepjedjclkaa
