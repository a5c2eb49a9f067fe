/-
  A STORY MADE OF ARBITRARY NUMBERS (1): the deeds. Conditions: none.
-/
import Derived.Test.YtdkmepjedjclkaaKRef
import Derived.Test.YtdkmepjedjclkaaKSDat
import Derived.Test.YtdkmepjedjclkaaKBMade
set_option linter.all false
namespace Go.Proofs.Ytdkmepjedjclkaa
open Go.AM
open Go.Proofs.Try (prog)
set_option linter.all false
set_option maxRecDepth 100000

def u8s (l : List Int) : List AV := l.map (.int .u8)
@[simp] theorem u8s_len (l : List Int) : (u8s l).length = l.length := by simp [u8s]
@[simp] theorem u8s_nil : u8s [] = [] := rfl
@[simp] theorem u8s_cons (a : Int) (l : List Int) : u8s (a :: l) = .int .u8 a :: u8s l := rfl
@[simp] theorem u8s_oneL (l : List Int) : oneL (u8s l) = true := by induction l <;> simp_all
@[simp] theorem u8s_closedL (l : List Int) : closedL (u8s l) = true := by induction l <;> simp_all
def Byte (n : Int) : Prop := 0 ≤ n ∧ n ≤ 255
/-- The numbers that a story is made of. -/
structure IsTaleN (a : AV) (hh : Int) (ds : List Int) (vT : AV) (T : List (List Int)) : Prop where
  eq : a = .agg (.int .u8 hh :: (u8s ds ++ [vT]))
  hB : Byte hh
  d4 : ds.length = 4
  dB : ∀ i, Byte (nth ds i)
  vT : IsSl u8s vT T
  t4 : ∀ x ∈ T, x.length = 4
  tB : ∀ x ∈ T, ∀ i, Byte (nth x i)
  tl : (T.length : Int) ≤ 9223372036854775807

/-- The story so far, in memory. -/
structure SM (m : Mem) (D : List Int) (vN : AV) : Prop where
  r : m.h 0 = some (.cells [.nils, .nils])
  nx : 2 ≤ m.nx
  s : (D = [] ∧ m.h 1 = some (.cells [.nils, vN])) ∨ ∃ id, D ≠ [] ∧ m.h 1 = some (.cells [.sl id 1 0 D.length D.length, vN]) ∧ m.h id = some (.cells (ints D)) ∧ 2 ≤ id ∧ id < m.nx

end Go.Proofs.Ytdkmepjedjclkaa
