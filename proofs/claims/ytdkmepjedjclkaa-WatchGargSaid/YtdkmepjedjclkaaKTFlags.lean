/-
  WatchFlags RETURNS TRUE. Conditions: none.
-/
import Derived.Test.YtdkmepjedjclkaaKSFlgD
import Derived.Test.YtdkmepjedjclkaaKTCuts
import Derived.Test.YtdkmepjedjclkaaKBWFlags
set_option linter.all false
namespace Go.Proofs.Ytdkmepjedjclkaa
open Go.AM
open Go.Proofs.Try (prog)
set_option linter.all false
set_option maxRecDepth 100000
set_option maxHeartbeats 4000000

theorem tuples_len : ∀ D : List Int, (∀ i, nth D i ≤ 6) → (tuplesL D).length ≤ 7 ^ D.length
  | [], _ => by simp [tuplesL]
  | d :: D, h => by
    have ih := tuples_len D fun i => h (i + 1)
    have hd : d ≤ 6 := h 0
    have e : ∀ (l : List Nat) (X : List (List Int)), (l.flatMap fun (i : Nat) => X.map (List.cons (i : Int))).length = l.length * X.length := by
      intro l X
      induction l with
      | nil => simp
      | cons a l ih => simp only [List.flatMap_cons, List.length_append, List.length_map, ih, List.length_cons]; rw [Nat.succ_mul]; omega
    simp only [tuplesL]
    rw [e, List.length_range, List.length_cons, Nat.pow_succ, Nat.mul_comm]
    exact Nat.mul_le_mul ih (by omega)
theorem cuts_few {D : List Int} {N : List Note} (L : Lims D N) : (cutsL D N).length ≤ 2401 := by
  refine Nat.le_trans (List.length_filter_le _ _) (Nat.le_trans (tuples_len D L.hi) ?_)
  exact Nat.le_trans (Nat.pow_le_pow_right (by omega) L.n4) (by decide)

/-- A row of flags as a value. -/
def rowBV (l : List Bool) : AV := .fsl (l.length == 0) l.length (flatC boolC l)
def cutF (Y : List (List Bool)) (k : Nat) : List (List Bool) := (Y.take k).map fun l => l.take 8
end Go.Proofs.Ytdkmepjedjclkaa
