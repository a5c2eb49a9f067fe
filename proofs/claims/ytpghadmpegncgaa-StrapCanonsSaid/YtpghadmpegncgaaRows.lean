/-
  No cell of these rows narrows 'for every input' (looked for: loops, veiled, ifaces, maps, wideKeys, modest, calm, conditions, laid).
  DERIVED. THE GIVEN ROWS OF THIS SEAT. 10 by the template 'for every input the law returns true; each argument reads behind the call as it read before'; 0 by the template 'total and deterministic' (their statements: YtpghadmpegncgaaTotals.lean).
  GIVEN WITH THE SEED: the statements are not yours to turn. If you find one false, say at which input.
  Laid BY PROGRAM, IN A SANDBOX (cutbox-rows.mjs): the forced cells as the released guide's own fill.sh prints them over the translation 0d234e33d58da2c3… (all of the seat's roots in one cut). By AI agents, Wed Nov 11 2026. No macro, syntax, notation, axiom, sorry.
-/
import Derived.Test.YtpghadmpegncgaaChecked
import GoSem.Claim
import GoSem.ClaimJoined
import GoSem.ClaimMapViews
import Derived.JoinedTies
import Derived.KernelRfl
namespace Go.Proofs.Ytpghadmpegncgaa
/- THE CELL 'sum', in the pinned program and in every row, IS THE sha256 OF THE DUMP (.gsa) THAT YtpghadmpegncgaaProg.lean LOADS. Nothing in Lean hashes anything: it is a label: what it is worth is what the hold of that sum in a sandbox is worth. -/
noncomputable def Try.pinned : Pinned := { name := "ytpghadmpegncgaa", sum := "0d234e33d58da2c356f519c1bffa011a2c7123238d8ceee408ad9c9be8c988dd", checked := Try.checked }
namespace Rows
def none {H : Type} : Left H := { results := [], args := [] }

/-- 'pommellaw04.StrapSingles': WHATEVER THE INPUT: true; the input reads as it did. -/
def strapSinglesSpec : ChangeSpec := { name := "strapSingles", fn := fun _ => fun
  | [d] => { results := [.lit (.bool true)], args := [d] }
  | _ => none }
def strapSinglesRow : OpenClaim := { program := "ytpghadmpegncgaa", sum := "0d234e33d58da2c356f519c1bffa011a2c7123238d8ceee408ad9c9be8c988dd", func := "pommel/pommellaw04.StrapSingles", spec := "strapSingles", unfollowed := true, recurses := true, apart := false }
def StrapSinglesSaid : Prop := strapSinglesRow.holds Try.pinned (OpenSpec.ofChange strapSinglesSpec)

/-- ITS FALSE NEIGHBOUR: 'it returns false'. Refute it at one input. -/
def strapSinglesWrong : ChangeSpec := { name := "strapSingles", fn := fun _ => fun
  | [d] => { results := [.lit (.bool false)], args := [d] }
  | _ => none }
def StrapSinglesWrongFalsely : Prop := strapSinglesRow.holds Try.pinned (OpenSpec.ofChange strapSinglesWrong)

/-- 'pommellaw04.StrapRounds': WHATEVER THE INPUT: true; the input reads as it did. -/
def strapRoundsSpec : ChangeSpec := { name := "strapRounds", fn := fun _ => fun
  | [d1, d2, d3] => { results := [.lit (.bool true)], args := [d1, d2, d3] }
  | _ => none }
def strapRoundsRow : OpenClaim := { program := "ytpghadmpegncgaa", sum := "0d234e33d58da2c356f519c1bffa011a2c7123238d8ceee408ad9c9be8c988dd", func := "pommel/pommellaw04.StrapRounds", spec := "strapRounds", unfollowed := true, recurses := true, apart := false }
def StrapRoundsSaid : Prop := strapRoundsRow.holds Try.pinned (OpenSpec.ofChange strapRoundsSpec)

/-- ITS FALSE NEIGHBOUR: 'it returns false'. Refute it at one input. -/
def strapRoundsWrong : ChangeSpec := { name := "strapRounds", fn := fun _ => fun
  | [d1, d2, d3] => { results := [.lit (.bool false)], args := [d1, d2, d3] }
  | _ => none }
def StrapRoundsWrongFalsely : Prop := strapRoundsRow.holds Try.pinned (OpenSpec.ofChange strapRoundsWrong)

/-- 'pommellaw04.StrapFulls': WHATEVER THE INPUT: true; the input reads as it did. -/
def strapFullsSpec : ChangeSpec := { name := "strapFulls", fn := fun _ => fun
  | [d] => { results := [.lit (.bool true)], args := [d] }
  | _ => none }
def strapFullsRow : OpenClaim := { program := "ytpghadmpegncgaa", sum := "0d234e33d58da2c356f519c1bffa011a2c7123238d8ceee408ad9c9be8c988dd", func := "pommel/pommellaw04.StrapFulls", spec := "strapFulls", unfollowed := true, recurses := true, apart := false }
def StrapFullsSaid : Prop := strapFullsRow.holds Try.pinned (OpenSpec.ofChange strapFullsSpec)

/-- ITS FALSE NEIGHBOUR: 'it returns false'. Refute it at one input. -/
def strapFullsWrong : ChangeSpec := { name := "strapFulls", fn := fun _ => fun
  | [d] => { results := [.lit (.bool false)], args := [d] }
  | _ => none }
def StrapFullsWrongFalsely : Prop := strapFullsRow.holds Try.pinned (OpenSpec.ofChange strapFullsWrong)

/-- 'pommellaw04.StrapDistances': WHATEVER THE INPUT: true; the input reads as it did. -/
def strapDistancesSpec : ChangeSpec := { name := "strapDistances", fn := fun _ => fun
  | [d] => { results := [.lit (.bool true)], args := [d] }
  | _ => none }
def strapDistancesRow : OpenClaim := { program := "ytpghadmpegncgaa", sum := "0d234e33d58da2c356f519c1bffa011a2c7123238d8ceee408ad9c9be8c988dd", func := "pommel/pommellaw04.StrapDistances", spec := "strapDistances", unfollowed := true, recurses := true, apart := false }
def StrapDistancesSaid : Prop := strapDistancesRow.holds Try.pinned (OpenSpec.ofChange strapDistancesSpec)

/-- ITS FALSE NEIGHBOUR: 'it returns false'. Refute it at one input. -/
def strapDistancesWrong : ChangeSpec := { name := "strapDistances", fn := fun _ => fun
  | [d] => { results := [.lit (.bool false)], args := [d] }
  | _ => none }
def StrapDistancesWrongFalsely : Prop := strapDistancesRow.holds Try.pinned (OpenSpec.ofChange strapDistancesWrong)

/-- 'pommellaw04.StrapMirrored': WHATEVER THE INPUT: true; the input reads as it did. -/
def strapMirroredSpec : ChangeSpec := { name := "strapMirrored", fn := fun _ => fun
  | [d] => { results := [.lit (.bool true)], args := [d] }
  | _ => none }
def strapMirroredRow : OpenClaim := { program := "ytpghadmpegncgaa", sum := "0d234e33d58da2c356f519c1bffa011a2c7123238d8ceee408ad9c9be8c988dd", func := "pommel/pommellaw04.StrapMirrored", spec := "strapMirrored", unfollowed := true, recurses := true, apart := false }
def StrapMirroredSaid : Prop := strapMirroredRow.holds Try.pinned (OpenSpec.ofChange strapMirroredSpec)

/-- ITS FALSE NEIGHBOUR: 'it returns false'. Refute it at one input. -/
def strapMirroredWrong : ChangeSpec := { name := "strapMirrored", fn := fun _ => fun
  | [d] => { results := [.lit (.bool false)], args := [d] }
  | _ => none }
def StrapMirroredWrongFalsely : Prop := strapMirroredRow.holds Try.pinned (OpenSpec.ofChange strapMirroredWrong)

/-- 'pommellaw04.StrapEvens': WHATEVER THE INPUT: true; the input reads as it did. -/
def strapEvensSpec : ChangeSpec := { name := "strapEvens", fn := fun _ => fun
  | [d1, d2] => { results := [.lit (.bool true)], args := [d1, d2] }
  | _ => none }
def strapEvensRow : OpenClaim := { program := "ytpghadmpegncgaa", sum := "0d234e33d58da2c356f519c1bffa011a2c7123238d8ceee408ad9c9be8c988dd", func := "pommel/pommellaw04.StrapEvens", spec := "strapEvens", unfollowed := true, recurses := true, apart := false }
def StrapEvensSaid : Prop := strapEvensRow.holds Try.pinned (OpenSpec.ofChange strapEvensSpec)

/-- ITS FALSE NEIGHBOUR: 'it returns false'. Refute it at one input. -/
def strapEvensWrong : ChangeSpec := { name := "strapEvens", fn := fun _ => fun
  | [d1, d2] => { results := [.lit (.bool false)], args := [d1, d2] }
  | _ => none }
def StrapEvensWrongFalsely : Prop := strapEvensRow.holds Try.pinned (OpenSpec.ofChange strapEvensWrong)

/-- 'pommellaw04.StrapShortest': WHATEVER THE INPUT: true; the input reads as it did. -/
def strapShortestSpec : ChangeSpec := { name := "strapShortest", fn := fun _ => fun
  | [d1, d2, d3] => { results := [.lit (.bool true)], args := [d1, d2, d3] }
  | _ => none }
def strapShortestRow : OpenClaim := { program := "ytpghadmpegncgaa", sum := "0d234e33d58da2c356f519c1bffa011a2c7123238d8ceee408ad9c9be8c988dd", func := "pommel/pommellaw04.StrapShortest", spec := "strapShortest", unfollowed := true, recurses := true, apart := false }
def StrapShortestSaid : Prop := strapShortestRow.holds Try.pinned (OpenSpec.ofChange strapShortestSpec)

/-- ITS FALSE NEIGHBOUR: 'it returns false'. Refute it at one input. -/
def strapShortestWrong : ChangeSpec := { name := "strapShortest", fn := fun _ => fun
  | [d1, d2, d3] => { results := [.lit (.bool false)], args := [d1, d2, d3] }
  | _ => none }
def StrapShortestWrongFalsely : Prop := strapShortestRow.holds Try.pinned (OpenSpec.ofChange strapShortestWrong)

/-- 'pommellaw04.StrapMultipliers': WHATEVER THE INPUT: true; the input reads as it did. -/
def strapMultipliersSpec : ChangeSpec := { name := "strapMultipliers", fn := fun _ => fun
  | [d1, d2] => { results := [.lit (.bool true)], args := [d1, d2] }
  | _ => none }
def strapMultipliersRow : OpenClaim := { program := "ytpghadmpegncgaa", sum := "0d234e33d58da2c356f519c1bffa011a2c7123238d8ceee408ad9c9be8c988dd", func := "pommel/pommellaw04.StrapMultipliers", spec := "strapMultipliers", unfollowed := true, recurses := true, apart := false }
def StrapMultipliersSaid : Prop := strapMultipliersRow.holds Try.pinned (OpenSpec.ofChange strapMultipliersSpec)

/-- ITS FALSE NEIGHBOUR: 'it returns false'. Refute it at one input. -/
def strapMultipliersWrong : ChangeSpec := { name := "strapMultipliers", fn := fun _ => fun
  | [d1, d2] => { results := [.lit (.bool false)], args := [d1, d2] }
  | _ => none }
def StrapMultipliersWrongFalsely : Prop := strapMultipliersRow.holds Try.pinned (OpenSpec.ofChange strapMultipliersWrong)

/-- 'pommellaw04.StrapCanons': WHATEVER THE INPUT: true; the input reads as it did. -/
def strapCanonsSpec : ChangeSpec := { name := "strapCanons", fn := fun _ => fun
  | [d1, d2, d3] => { results := [.lit (.bool true)], args := [d1, d2, d3] }
  | _ => none }
def strapCanonsRow : OpenClaim := { program := "ytpghadmpegncgaa", sum := "0d234e33d58da2c356f519c1bffa011a2c7123238d8ceee408ad9c9be8c988dd", func := "pommel/pommellaw04.StrapCanons", spec := "strapCanons", unfollowed := true, recurses := true, apart := false }
def StrapCanonsSaid : Prop := strapCanonsRow.holds Try.pinned (OpenSpec.ofChange strapCanonsSpec)

/-- ITS FALSE NEIGHBOUR: 'it returns false'. Refute it at one input. -/
def strapCanonsWrong : ChangeSpec := { name := "strapCanons", fn := fun _ => fun
  | [d1, d2, d3] => { results := [.lit (.bool false)], args := [d1, d2, d3] }
  | _ => none }
def StrapCanonsWrongFalsely : Prop := strapCanonsRow.holds Try.pinned (OpenSpec.ofChange strapCanonsWrong)

/-- 'pommellaw04.StrapSingers': WHATEVER THE INPUT: true; the input reads as it did. -/
def strapSingersSpec : ChangeSpec := { name := "strapSingers", fn := fun _ => fun
  | [d] => { results := [.lit (.bool true)], args := [d] }
  | _ => none }
def strapSingersRow : OpenClaim := { program := "ytpghadmpegncgaa", sum := "0d234e33d58da2c356f519c1bffa011a2c7123238d8ceee408ad9c9be8c988dd", func := "pommel/pommellaw04.StrapSingers", spec := "strapSingers", unfollowed := true, recurses := true, apart := false }
def StrapSingersSaid : Prop := strapSingersRow.holds Try.pinned (OpenSpec.ofChange strapSingersSpec)

/-- ITS FALSE NEIGHBOUR: 'it returns false'. Refute it at one input. -/
def strapSingersWrong : ChangeSpec := { name := "strapSingers", fn := fun _ => fun
  | [d] => { results := [.lit (.bool false)], args := [d] }
  | _ => none }
def StrapSingersWrongFalsely : Prop := strapSingersRow.holds Try.pinned (OpenSpec.ofChange strapSingersWrong)

/- THE SECOND FORM. 'bulk': how many values and letters a reading holds, each counted each time it is reached (what is shared counts as often as it is met; a slice's spare places count too). A statement '..UptoSaid' is the law's where the arguments, and the package variables that the reading takes, are together of bulk at most 1048576: NARROWER than '..Said'. Prove '..Said' where nothing that the law and all that it calls make is longer than what came in: it says more and counts as full. Else prove '..UptoSaid'. A law counts once. -/
mutual
def uptoBulk {H : Type} : DataW H → Nat
  | .lit (.string bytes) => bytes.length + 1
  | .lit _ => 1
  | .nil => 1
  | .ptr d => uptoBulk d + 1
  | .slice elems spare => uptoBulkAll elems + uptoBulkAll spare + 1
  | .agg parts => uptoBulkAll parts + 1
  | .iface _ d => uptoBulk d + 1
  | .map entries => uptoBulkEntries entries + 1
  | .held _ => 1
def uptoBulkAll {H : Type} : List (DataW H) → Nat
  | [] => 0
  | d :: r => uptoBulk d + uptoBulkAll r
def uptoBulkEntries {H : Type} : List (Lit × DataW H) → Nat
  | [] => 0
  | x :: r => uptoBulkEntry x + uptoBulkEntries r
def uptoBulkEntry {H : Type} : Lit × DataW H → Nat
  | (.string bytes, d) => bytes.length + uptoBulk d + 1
  | (_, d) => uptoBulk d + 1
 end
def uptoSmall : (H : Type) → List (DataW H) → Bool := fun _ ds => decide (uptoBulkAll ds ≤ 1048576)
def OpenSpec.upto (s : _root_.Go.ChangeSpec) : _root_.Go.OpenSpec := { _root_.Go.OpenSpec.ofChange s with cond := some uptoSmall }

/-- 'pommellaw04.StrapSingles', WHERE WHAT IT READS IS OF BULK AT MOST 1048576: true; the input reads as it did. -/
def strapSinglesUptoRow : OpenClaim := { program := "ytpghadmpegncgaa", sum := "0d234e33d58da2c356f519c1bffa011a2c7123238d8ceee408ad9c9be8c988dd", func := "pommel/pommellaw04.StrapSingles", spec := "strapSingles", unfollowed := true, recurses := true, apart := false, narrowed := true }
def StrapSinglesUptoSaid : Prop := strapSinglesUptoRow.holds Try.pinned (OpenSpec.upto strapSinglesSpec)

/-- 'pommellaw04.StrapRounds', WHERE WHAT IT READS IS OF BULK AT MOST 1048576: true; the input reads as it did. -/
def strapRoundsUptoRow : OpenClaim := { program := "ytpghadmpegncgaa", sum := "0d234e33d58da2c356f519c1bffa011a2c7123238d8ceee408ad9c9be8c988dd", func := "pommel/pommellaw04.StrapRounds", spec := "strapRounds", unfollowed := true, recurses := true, apart := false, narrowed := true }
def StrapRoundsUptoSaid : Prop := strapRoundsUptoRow.holds Try.pinned (OpenSpec.upto strapRoundsSpec)

/-- 'pommellaw04.StrapFulls', WHERE WHAT IT READS IS OF BULK AT MOST 1048576: true; the input reads as it did. -/
def strapFullsUptoRow : OpenClaim := { program := "ytpghadmpegncgaa", sum := "0d234e33d58da2c356f519c1bffa011a2c7123238d8ceee408ad9c9be8c988dd", func := "pommel/pommellaw04.StrapFulls", spec := "strapFulls", unfollowed := true, recurses := true, apart := false, narrowed := true }
def StrapFullsUptoSaid : Prop := strapFullsUptoRow.holds Try.pinned (OpenSpec.upto strapFullsSpec)

/-- 'pommellaw04.StrapDistances', WHERE WHAT IT READS IS OF BULK AT MOST 1048576: true; the input reads as it did. -/
def strapDistancesUptoRow : OpenClaim := { program := "ytpghadmpegncgaa", sum := "0d234e33d58da2c356f519c1bffa011a2c7123238d8ceee408ad9c9be8c988dd", func := "pommel/pommellaw04.StrapDistances", spec := "strapDistances", unfollowed := true, recurses := true, apart := false, narrowed := true }
def StrapDistancesUptoSaid : Prop := strapDistancesUptoRow.holds Try.pinned (OpenSpec.upto strapDistancesSpec)

/-- 'pommellaw04.StrapMirrored', WHERE WHAT IT READS IS OF BULK AT MOST 1048576: true; the input reads as it did. -/
def strapMirroredUptoRow : OpenClaim := { program := "ytpghadmpegncgaa", sum := "0d234e33d58da2c356f519c1bffa011a2c7123238d8ceee408ad9c9be8c988dd", func := "pommel/pommellaw04.StrapMirrored", spec := "strapMirrored", unfollowed := true, recurses := true, apart := false, narrowed := true }
def StrapMirroredUptoSaid : Prop := strapMirroredUptoRow.holds Try.pinned (OpenSpec.upto strapMirroredSpec)

/-- 'pommellaw04.StrapEvens', WHERE WHAT IT READS IS OF BULK AT MOST 1048576: true; the input reads as it did. -/
def strapEvensUptoRow : OpenClaim := { program := "ytpghadmpegncgaa", sum := "0d234e33d58da2c356f519c1bffa011a2c7123238d8ceee408ad9c9be8c988dd", func := "pommel/pommellaw04.StrapEvens", spec := "strapEvens", unfollowed := true, recurses := true, apart := false, narrowed := true }
def StrapEvensUptoSaid : Prop := strapEvensUptoRow.holds Try.pinned (OpenSpec.upto strapEvensSpec)

/-- 'pommellaw04.StrapShortest', WHERE WHAT IT READS IS OF BULK AT MOST 1048576: true; the input reads as it did. -/
def strapShortestUptoRow : OpenClaim := { program := "ytpghadmpegncgaa", sum := "0d234e33d58da2c356f519c1bffa011a2c7123238d8ceee408ad9c9be8c988dd", func := "pommel/pommellaw04.StrapShortest", spec := "strapShortest", unfollowed := true, recurses := true, apart := false, narrowed := true }
def StrapShortestUptoSaid : Prop := strapShortestUptoRow.holds Try.pinned (OpenSpec.upto strapShortestSpec)

/-- 'pommellaw04.StrapMultipliers', WHERE WHAT IT READS IS OF BULK AT MOST 1048576: true; the input reads as it did. -/
def strapMultipliersUptoRow : OpenClaim := { program := "ytpghadmpegncgaa", sum := "0d234e33d58da2c356f519c1bffa011a2c7123238d8ceee408ad9c9be8c988dd", func := "pommel/pommellaw04.StrapMultipliers", spec := "strapMultipliers", unfollowed := true, recurses := true, apart := false, narrowed := true }
def StrapMultipliersUptoSaid : Prop := strapMultipliersUptoRow.holds Try.pinned (OpenSpec.upto strapMultipliersSpec)

/-- 'pommellaw04.StrapCanons', WHERE WHAT IT READS IS OF BULK AT MOST 1048576: true; the input reads as it did. -/
def strapCanonsUptoRow : OpenClaim := { program := "ytpghadmpegncgaa", sum := "0d234e33d58da2c356f519c1bffa011a2c7123238d8ceee408ad9c9be8c988dd", func := "pommel/pommellaw04.StrapCanons", spec := "strapCanons", unfollowed := true, recurses := true, apart := false, narrowed := true }
def StrapCanonsUptoSaid : Prop := strapCanonsUptoRow.holds Try.pinned (OpenSpec.upto strapCanonsSpec)

/-- 'pommellaw04.StrapSingers', WHERE WHAT IT READS IS OF BULK AT MOST 1048576: true; the input reads as it did. -/
def strapSingersUptoRow : OpenClaim := { program := "ytpghadmpegncgaa", sum := "0d234e33d58da2c356f519c1bffa011a2c7123238d8ceee408ad9c9be8c988dd", func := "pommel/pommellaw04.StrapSingers", spec := "strapSingers", unfollowed := true, recurses := true, apart := false, narrowed := true }
def StrapSingersUptoSaid : Prop := strapSingersUptoRow.holds Try.pinned (OpenSpec.upto strapSingersSpec)

end Rows
end Go.Proofs.Ytpghadmpegncgaa
