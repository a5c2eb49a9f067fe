/-
  THE PLAIN LAW (6): the cuts stand in order; a consistent cut is the join of clocks. Conditions: none.
-/
import Derived.Test.YtdkmepjedjclkaaKSLawE
set_option linter.all false
namespace Go.Proofs.Ytdkmepjedjclkaa
open Go.AM
open Go.Proofs.Try (prog)
set_option linter.all false
set_option maxRecDepth 10000

theorem tuples_sorted : ∀ D : List Int, (tuplesL D).Pairwise (fun a b => lexLt a b = true)
  | [] => by simp [tuplesL]
  | d :: D => by
    simp only [tuplesL]
    rw [List.pairwise_flatMap]
    refine ⟨fun i _ => ?_, ?_⟩
    · rw [List.pairwise_map]
      exact (tuples_sorted D).imp fun h => by simpa [lexLt] using h
    · refine List.pairwise_lt_range.imp fun {i j} hij a ha b hb => ?_
      simp only [List.mem_map] at ha hb
      obtain ⟨a', _, rfl⟩ := ha
      obtain ⟨b', _, rfl⟩ := hb
      have h1 : ¬ (i : Int) = j := by omega
      simp only [lexLt, h1, if_false, decide_eq_true_eq]
      omega
theorem cuts_sorted (D : List Int) (N : List Note) : (cutsL D N).Pairwise (fun a b => lexLt a b = true) := (tuples_sorted D).filter _

/-- The join of the clocks of the hands' last deeds: from hand h on, k hands. -/
def joinR (K : List (List (List Int))) (n : Nat) (l : List Int) : Nat → Nat → List Int → List Int
  | 0, _, out => out
  | k + 1, h, out => joinR K n l k (h + 1) (if 0 < nth l h then zmax out ((clk K h ((nth l h).toNat - 1)).take n) else out)

section
variable {D : List Int} {N : List Note} {K : List (List (List Int))}
end
end Go.Proofs.Ytdkmepjedjclkaa
