/-
  A STORY MADE OF ARBITRARY NUMBERS (2): one message. Conditions: none.
-/
import Derived.Test.YtdkmepjedjclkaaKSMadeA
import Derived.Test.YtdkmepjedjclkaaKWatch
set_option linter.all false
namespace Go.Proofs.Ytdkmepjedjclkaa
open Go.AM
open Go.Proofs.Try (prog)
set_option linter.all false
set_option maxRecDepth 100000
set_option maxHeartbeats 4000000

/-- The story so far, and its messages. -/
structure SN (m : Mem) (D : List Int) (vN : AV) (N : List Note) : Prop where
  r : m.h 0 = some (.cells [.nils, .nils])
  s : ∃ id, m.h 1 = some (.cells [.sl id 1 0 D.length D.length, vN]) ∧ m.h id = some (.cells (ints D)) ∧ 2 ≤ id ∧ id < m.nx
  n : IsSl noteC vN N
  v : ValidS D N
  few : N.length ≤ 12

/-- The message that four numbers tell. -/
def noteOf (D x : List Int) : Note :=
  ⟨(nth x 0).tmod D.length, (nth x 1).tmod (nth D ((nth x 0).tmod D.length).toNat) + 1, (nth x 2).tmod D.length, (nth x 3).tmod (nth D ((nth x 2).tmod D.length).toNat) + 1⟩

end Go.Proofs.Ytdkmepjedjclkaa
