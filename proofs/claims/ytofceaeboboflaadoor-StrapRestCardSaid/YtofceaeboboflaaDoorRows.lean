/-
  NARROWER THAN 'FOR EVERY INPUT', by the rows' own cells (each row's printed sentence says how): StrapGroup: laid · StrapCounts: laid · StrapHall: laid · StrapRest: laid.
  DERIVED. THE GIVEN ROWS OF THIS SEAT. 4 by the template 'for every input the law returns true; each argument reads behind the call as it read before'; 0 by the template 'total and deterministic' (their statements: YtofceaeboboflaaDoorTotals.lean).
  GIVEN WITH THE SEED: the statements are not yours to turn. If you find one false, say at which input.
  Laid BY PROGRAM, IN A SANDBOX (cutbox-rows.mjs): the forced cells as the released guide's own fill.sh prints them over the translation 4487752a304af2ae… (all of the seat's roots in one cut). By AI agents, Wed Nov 11 2026. No macro, syntax, notation, axiom, sorry.
-/
import Derived.Test.YtofceaeboboflaaDoorChecked
import GoSem.Claim
import GoSem.ClaimJoined
import GoSem.ClaimMapViews
import Derived.JoinedTies
import Derived.KernelRfl
namespace Go.Proofs.YtofceaeboboflaaDoor
/- THE CELL 'sum', in the pinned program and in every row, IS THE sha256 OF THE DUMP (.gsa) THAT YtofceaeboboflaaDoorProg.lean LOADS. Nothing in Lean hashes anything: it is a label: what it is worth is what the hold of that sum in a sandbox is worth. -/
noncomputable def Tryd.pinned : Pinned := { name := "ytofceaeboboflaadoor", sum := "4487752a304af2ae0ac7628d92773ac51a022cc4b0fc40145fb28b8d7cf3e54c", checked := Tryd.checked }
namespace Rows
def none {H : Type} : Left H := { results := [], args := [] }

/- WHAT THE LISTED PACKAGE-LEVEL VARIABLES READ AS WHEN THE CALL BEGINS. Each datum BY PROGRAM (the guide's laid-datum.mjs) off the statement by which the dump's own 'gosem.cut.vars' lays the variable. In a bare row this is a premise. The card (YtofceaeboboflaaDoorCards.lean) ties it to the program's text. -/
def laid_pommel_pommellaw04_even {H : Type} : DataW H := .slice [.agg [.lit (.int .i64 7), .slice [.lit (.int .i64 0), .lit (.int .i64 1), .lit (.int .i64 3)] []], .agg [.lit (.int .i64 11), .slice [.lit (.int .i64 1), .lit (.int .i64 3), .lit (.int .i64 4), .lit (.int .i64 5), .lit (.int .i64 9)] []], .agg [.lit (.int .i64 13), .slice [.lit (.int .i64 0), .lit (.int .i64 1), .lit (.int .i64 3), .lit (.int .i64 9)] []], .agg [.lit (.int .i64 15), .slice [.lit (.int .i64 0), .lit (.int .i64 1), .lit (.int .i64 2), .lit (.int .i64 4), .lit (.int .i64 5), .lit (.int .i64 8), .lit (.int .i64 10)] []], .agg [.lit (.int .i64 21), .slice [.lit (.int .i64 3), .lit (.int .i64 6), .lit (.int .i64 7), .lit (.int .i64 12), .lit (.int .i64 14)] []], .agg [.lit (.int .i64 31), .slice [.lit (.int .i64 1), .lit (.int .i64 5), .lit (.int .i64 11), .lit (.int .i64 24), .lit (.int .i64 25), .lit (.int .i64 27)] []], .agg [.lit (.int .i64 19), .slice [.lit (.int .i64 1), .lit (.int .i64 4), .lit (.int .i64 5), .lit (.int .i64 6), .lit (.int .i64 7), .lit (.int .i64 9), .lit (.int .i64 11), .lit (.int .i64 16), .lit (.int .i64 17)] []], .agg [.lit (.int .i64 4), .slice [.lit (.int .i64 0), .lit (.int .i64 1), .lit (.int .i64 2)] []], .agg [.lit (.int .i64 6), .slice [.lit (.int .i64 2)] []], .agg [.lit (.int .i64 23), .slice [.lit (.int .i64 1), .lit (.int .i64 2), .lit (.int .i64 3), .lit (.int .i64 4), .lit (.int .i64 6), .lit (.int .i64 8), .lit (.int .i64 9), .lit (.int .i64 12), .lit (.int .i64 13), .lit (.int .i64 16), .lit (.int .i64 18)] []]] []

/-- 'pommellaw04.StrapGroup': WHATEVER THE INPUT: true; the input reads as it did. -/
def strapGroupSpec : ChangeSpec := { name := "strapGroup", fn := fun _ => fun
  | [d1, d2, d3] => { results := [.lit (.bool true)], args := [d1, d2, d3] }
  | _ => none }
def strapGroupRow : OpenClaim := { program := "ytofceaeboboflaadoor", sum := "4487752a304af2ae0ac7628d92773ac51a022cc4b0fc40145fb28b8d7cf3e54c", func := "pommel/pommellaw04.StrapGroup", spec := "strapGroup", unfollowed := true, recurses := true, named := ["pommel/pommellaw04.even"], apart := false, laid := [("pommel/pommellaw04.even", laid_pommel_pommellaw04_even)] }
def StrapGroupSaid : Prop := strapGroupRow.holds Tryd.pinned (OpenSpec.ofChange strapGroupSpec)

/-- ITS FALSE NEIGHBOUR: 'it returns false'. Refute it at one input. -/
def strapGroupWrong : ChangeSpec := { name := "strapGroup", fn := fun _ => fun
  | [d1, d2, d3] => { results := [.lit (.bool false)], args := [d1, d2, d3] }
  | _ => none }
def StrapGroupWrongFalsely : Prop := strapGroupRow.holds Tryd.pinned (OpenSpec.ofChange strapGroupWrong)

/-- 'pommellaw04.StrapCounts': WHATEVER THE INPUT: true; the input reads as it did. -/
def strapCountsSpec : ChangeSpec := { name := "strapCounts", fn := fun _ => fun
  | [d1, d2, d3] => { results := [.lit (.bool true)], args := [d1, d2, d3] }
  | _ => none }
def strapCountsRow : OpenClaim := { program := "ytofceaeboboflaadoor", sum := "4487752a304af2ae0ac7628d92773ac51a022cc4b0fc40145fb28b8d7cf3e54c", func := "pommel/pommellaw04.StrapCounts", spec := "strapCounts", unfollowed := true, recurses := true, named := ["pommel/pommellaw04.even"], apart := false, laid := [("pommel/pommellaw04.even", laid_pommel_pommellaw04_even)] }
def StrapCountsSaid : Prop := strapCountsRow.holds Tryd.pinned (OpenSpec.ofChange strapCountsSpec)

/-- ITS FALSE NEIGHBOUR: 'it returns false'. Refute it at one input. -/
def strapCountsWrong : ChangeSpec := { name := "strapCounts", fn := fun _ => fun
  | [d1, d2, d3] => { results := [.lit (.bool false)], args := [d1, d2, d3] }
  | _ => none }
def StrapCountsWrongFalsely : Prop := strapCountsRow.holds Tryd.pinned (OpenSpec.ofChange strapCountsWrong)

/-- 'pommellaw04.StrapHall': WHATEVER THE INPUT: true; the input reads as it did. -/
def strapHallSpec : ChangeSpec := { name := "strapHall", fn := fun _ => fun
  | [d] => { results := [.lit (.bool true)], args := [d] }
  | _ => none }
def strapHallRow : OpenClaim := { program := "ytofceaeboboflaadoor", sum := "4487752a304af2ae0ac7628d92773ac51a022cc4b0fc40145fb28b8d7cf3e54c", func := "pommel/pommellaw04.StrapHall", spec := "strapHall", unfollowed := true, recurses := true, named := ["pommel/pommellaw04.even"], apart := false, laid := [("pommel/pommellaw04.even", laid_pommel_pommellaw04_even)] }
def StrapHallSaid : Prop := strapHallRow.holds Tryd.pinned (OpenSpec.ofChange strapHallSpec)

/-- ITS FALSE NEIGHBOUR: 'it returns false'. Refute it at one input. -/
def strapHallWrong : ChangeSpec := { name := "strapHall", fn := fun _ => fun
  | [d] => { results := [.lit (.bool false)], args := [d] }
  | _ => none }
def StrapHallWrongFalsely : Prop := strapHallRow.holds Tryd.pinned (OpenSpec.ofChange strapHallWrong)

/-- 'pommellaw04.StrapRest': WHATEVER THE INPUT: true; the input reads as it did. -/
def strapRestSpec : ChangeSpec := { name := "strapRest", fn := fun _ => fun
  | [d] => { results := [.lit (.bool true)], args := [d] }
  | _ => none }
def strapRestRow : OpenClaim := { program := "ytofceaeboboflaadoor", sum := "4487752a304af2ae0ac7628d92773ac51a022cc4b0fc40145fb28b8d7cf3e54c", func := "pommel/pommellaw04.StrapRest", spec := "strapRest", unfollowed := true, recurses := true, named := ["pommel/pommellaw04.even"], apart := false, laid := [("pommel/pommellaw04.even", laid_pommel_pommellaw04_even)] }
def StrapRestSaid : Prop := strapRestRow.holds Tryd.pinned (OpenSpec.ofChange strapRestSpec)

/-- ITS FALSE NEIGHBOUR: 'it returns false'. Refute it at one input. -/
def strapRestWrong : ChangeSpec := { name := "strapRest", fn := fun _ => fun
  | [d] => { results := [.lit (.bool false)], args := [d] }
  | _ => none }
def StrapRestWrongFalsely : Prop := strapRestRow.holds Tryd.pinned (OpenSpec.ofChange strapRestWrong)

/- THE SECOND FORM. 'bulk': how many values and letters a reading holds, each counted each time it is reached (what is shared counts as often as it is met; a slice's spare places count too). A statement '..UptoSaid' is the law's where the arguments, and the package variables that the reading takes, are together of bulk at most 1048576: NARROWER than '..Said'. Prove '..Said' where nothing that the law and all that it calls make is longer than what came in: it says more and counts as full. Else prove '..UptoSaid'. A law counts once. -/
mutual
def uptoBulk {H : Type} : DataW H → Nat
  | .lit (.string bytes) => bytes.length + 1
  | .lit _ => 1
  | .nil => 1
  | .ptr d => uptoBulk d + 1
  | .slice elems spare => uptoBulkAll elems + uptoBulkAll spare + 1
  | .agg parts => uptoBulkAll parts + 1
  | .iface _ d => uptoBulk d + 1
  | .map entries => uptoBulkEntries entries + 1
  | .held _ => 1
def uptoBulkAll {H : Type} : List (DataW H) → Nat
  | [] => 0
  | d :: r => uptoBulk d + uptoBulkAll r
def uptoBulkEntries {H : Type} : List (Lit × DataW H) → Nat
  | [] => 0
  | x :: r => uptoBulkEntry x + uptoBulkEntries r
def uptoBulkEntry {H : Type} : Lit × DataW H → Nat
  | (.string bytes, d) => bytes.length + uptoBulk d + 1
  | (_, d) => uptoBulk d + 1
 end
def uptoSmall : (H : Type) → List (DataW H) → Bool := fun _ ds => decide (uptoBulkAll ds ≤ 1048576)
def OpenSpec.upto (s : _root_.Go.ChangeSpec) : _root_.Go.OpenSpec := { _root_.Go.OpenSpec.ofChange s with cond := some uptoSmall }

/-- 'pommellaw04.StrapGroup', WHERE WHAT IT READS IS OF BULK AT MOST 1048576: true; the input reads as it did. -/
def strapGroupUptoRow : OpenClaim := { program := "ytofceaeboboflaadoor", sum := "4487752a304af2ae0ac7628d92773ac51a022cc4b0fc40145fb28b8d7cf3e54c", func := "pommel/pommellaw04.StrapGroup", spec := "strapGroup", unfollowed := true, recurses := true, named := ["pommel/pommellaw04.even"], apart := false, laid := [("pommel/pommellaw04.even", laid_pommel_pommellaw04_even)], narrowed := true }
def StrapGroupUptoSaid : Prop := strapGroupUptoRow.holds Tryd.pinned (OpenSpec.upto strapGroupSpec)

/-- 'pommellaw04.StrapCounts', WHERE WHAT IT READS IS OF BULK AT MOST 1048576: true; the input reads as it did. -/
def strapCountsUptoRow : OpenClaim := { program := "ytofceaeboboflaadoor", sum := "4487752a304af2ae0ac7628d92773ac51a022cc4b0fc40145fb28b8d7cf3e54c", func := "pommel/pommellaw04.StrapCounts", spec := "strapCounts", unfollowed := true, recurses := true, named := ["pommel/pommellaw04.even"], apart := false, laid := [("pommel/pommellaw04.even", laid_pommel_pommellaw04_even)], narrowed := true }
def StrapCountsUptoSaid : Prop := strapCountsUptoRow.holds Tryd.pinned (OpenSpec.upto strapCountsSpec)

/-- 'pommellaw04.StrapHall', WHERE WHAT IT READS IS OF BULK AT MOST 1048576: true; the input reads as it did. -/
def strapHallUptoRow : OpenClaim := { program := "ytofceaeboboflaadoor", sum := "4487752a304af2ae0ac7628d92773ac51a022cc4b0fc40145fb28b8d7cf3e54c", func := "pommel/pommellaw04.StrapHall", spec := "strapHall", unfollowed := true, recurses := true, named := ["pommel/pommellaw04.even"], apart := false, laid := [("pommel/pommellaw04.even", laid_pommel_pommellaw04_even)], narrowed := true }
def StrapHallUptoSaid : Prop := strapHallUptoRow.holds Tryd.pinned (OpenSpec.upto strapHallSpec)

/-- 'pommellaw04.StrapRest', WHERE WHAT IT READS IS OF BULK AT MOST 1048576: true; the input reads as it did. -/
def strapRestUptoRow : OpenClaim := { program := "ytofceaeboboflaadoor", sum := "4487752a304af2ae0ac7628d92773ac51a022cc4b0fc40145fb28b8d7cf3e54c", func := "pommel/pommellaw04.StrapRest", spec := "strapRest", unfollowed := true, recurses := true, named := ["pommel/pommellaw04.even"], apart := false, laid := [("pommel/pommellaw04.even", laid_pommel_pommellaw04_even)], narrowed := true }
def StrapRestUptoSaid : Prop := strapRestUptoRow.holds Tryd.pinned (OpenSpec.upto strapRestSpec)

end Rows
end Go.Proofs.YtofceaeboboflaaDoor
