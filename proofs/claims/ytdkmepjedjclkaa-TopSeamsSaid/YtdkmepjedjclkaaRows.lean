/-
  No cell of these rows narrows 'for every input' (looked for: loops, veiled, ifaces, maps, wideKeys, modest, calm, conditions, laid).
  DERIVED. THE GIVEN ROWS OF THIS SEAT. 14 by the template 'for every input the law returns true; each argument reads behind the call as it read before'; 0 by the template 'total and deterministic' (their statements: YtdkmepjedjclkaaTotals.lean).
  GIVEN WITH THE SEED: the statements are not yours to turn. If you find one false, say at which input.
  Laid BY PROGRAM, IN A SANDBOX (cutbox-rows.mjs): the forced cells as the released guide's own fill.sh prints them over the translation c706ff767644850f… (all of the seat's roots in one cut). By AI agents, Wed Nov 11 2026. No macro, syntax, notation, axiom, sorry.
-/
import Derived.Test.YtdkmepjedjclkaaChecked
import GoSem.Claim
import GoSem.ClaimJoined
import GoSem.ClaimMapViews
import Derived.JoinedTies
import Derived.KernelRfl
namespace Go.Proofs.Ytdkmepjedjclkaa
/- THE CELL 'sum', in the pinned program and in every row, IS THE sha256 OF THE DUMP (.gsa) THAT YtdkmepjedjclkaaProg.lean LOADS. Nothing in Lean hashes anything: it is a label: what it is worth is what the hold of that sum in a sandbox is worth. -/
noncomputable def Try.pinned : Pinned := { name := "ytdkmepjedjclkaa", sum := "c706ff767644850fc4d2ab7c7194daa1dc9c2ae18227cab2270683ba43a3955a", checked := Try.checked }
namespace Rows
def none {H : Type} : Left H := { results := [], args := [] }

/-- 'pommellaw09.WatchRanks': WHATEVER THE INPUT: true; the input reads as it did. -/
def watchRanksSpec : ChangeSpec := { name := "watchRanks", fn := fun _ => fun
  | [d1, d2] => { results := [.lit (.bool true)], args := [d1, d2] }
  | _ => none }
def watchRanksRow : OpenClaim := { program := "ytdkmepjedjclkaa", sum := "c706ff767644850fc4d2ab7c7194daa1dc9c2ae18227cab2270683ba43a3955a", func := "pommel/pommellaw09.WatchRanks", spec := "watchRanks", unfollowed := true, recurses := true, plainKeys := false, apart := false }
def WatchRanksSaid : Prop := watchRanksRow.holds Try.pinned (OpenSpec.ofChange watchRanksSpec)

/-- ITS FALSE NEIGHBOUR: 'it returns false'. Refute it at one input. -/
def watchRanksWrong : ChangeSpec := { name := "watchRanks", fn := fun _ => fun
  | [d1, d2] => { results := [.lit (.bool false)], args := [d1, d2] }
  | _ => none }
def WatchRanksWrongFalsely : Prop := watchRanksRow.holds Try.pinned (OpenSpec.ofChange watchRanksWrong)

/-- 'pommellaw09.WatchLattice': WHATEVER THE INPUT: true; the input reads as it did. -/
def watchLatticeSpec : ChangeSpec := { name := "watchLattice", fn := fun _ => fun
  | [d1, d2, d3] => { results := [.lit (.bool true)], args := [d1, d2, d3] }
  | _ => none }
def watchLatticeRow : OpenClaim := { program := "ytdkmepjedjclkaa", sum := "c706ff767644850fc4d2ab7c7194daa1dc9c2ae18227cab2270683ba43a3955a", func := "pommel/pommellaw09.WatchLattice", spec := "watchLattice", unfollowed := true, recurses := true, plainKeys := false, apart := false }
def WatchLatticeSaid : Prop := watchLatticeRow.holds Try.pinned (OpenSpec.ofChange watchLatticeSpec)

/-- ITS FALSE NEIGHBOUR: 'it returns false'. Refute it at one input. -/
def watchLatticeWrong : ChangeSpec := { name := "watchLattice", fn := fun _ => fun
  | [d1, d2, d3] => { results := [.lit (.bool false)], args := [d1, d2, d3] }
  | _ => none }
def WatchLatticeWrongFalsely : Prop := watchLatticeRow.holds Try.pinned (OpenSpec.ofChange watchLatticeWrong)

/-- 'pommellaw09.WatchBack': WHATEVER THE INPUT: true; the input reads as it did. -/
def watchBackSpec : ChangeSpec := { name := "watchBack", fn := fun _ => fun
  | [d1, d2] => { results := [.lit (.bool true)], args := [d1, d2] }
  | _ => none }
def watchBackRow : OpenClaim := { program := "ytdkmepjedjclkaa", sum := "c706ff767644850fc4d2ab7c7194daa1dc9c2ae18227cab2270683ba43a3955a", func := "pommel/pommellaw09.WatchBack", spec := "watchBack", unfollowed := true, recurses := true, plainKeys := false, apart := false }
def WatchBackSaid : Prop := watchBackRow.holds Try.pinned (OpenSpec.ofChange watchBackSpec)

/-- ITS FALSE NEIGHBOUR: 'it returns false'. Refute it at one input. -/
def watchBackWrong : ChangeSpec := { name := "watchBack", fn := fun _ => fun
  | [d1, d2] => { results := [.lit (.bool false)], args := [d1, d2] }
  | _ => none }
def WatchBackWrongFalsely : Prop := watchBackRow.holds Try.pinned (OpenSpec.ofChange watchBackWrong)

/-- 'pommellaw09.WatchBefore': WHATEVER THE INPUT: true; the input reads as it did. -/
def watchBeforeSpec : ChangeSpec := { name := "watchBefore", fn := fun _ => fun
  | [d1, d2, d3] => { results := [.lit (.bool true)], args := [d1, d2, d3] }
  | _ => none }
def watchBeforeRow : OpenClaim := { program := "ytdkmepjedjclkaa", sum := "c706ff767644850fc4d2ab7c7194daa1dc9c2ae18227cab2270683ba43a3955a", func := "pommel/pommellaw09.WatchBefore", spec := "watchBefore", unfollowed := true, recurses := true, plainKeys := false, apart := false }
def WatchBeforeSaid : Prop := watchBeforeRow.holds Try.pinned (OpenSpec.ofChange watchBeforeSpec)

/-- ITS FALSE NEIGHBOUR: 'it returns false'. Refute it at one input. -/
def watchBeforeWrong : ChangeSpec := { name := "watchBefore", fn := fun _ => fun
  | [d1, d2, d3] => { results := [.lit (.bool false)], args := [d1, d2, d3] }
  | _ => none }
def WatchBeforeWrongFalsely : Prop := watchBeforeRow.holds Try.pinned (OpenSpec.ofChange watchBeforeWrong)

/-- 'pommellaw09.WatchTurned': WHATEVER THE INPUT: true; the input reads as it did. -/
def watchTurnedSpec : ChangeSpec := { name := "watchTurned", fn := fun _ => fun
  | [d] => { results := [.lit (.bool true)], args := [d] }
  | _ => none }
def watchTurnedRow : OpenClaim := { program := "ytdkmepjedjclkaa", sum := "c706ff767644850fc4d2ab7c7194daa1dc9c2ae18227cab2270683ba43a3955a", func := "pommel/pommellaw09.WatchTurned", spec := "watchTurned", unfollowed := true, recurses := true, plainKeys := false, apart := false }
def WatchTurnedSaid : Prop := watchTurnedRow.holds Try.pinned (OpenSpec.ofChange watchTurnedSpec)

/-- ITS FALSE NEIGHBOUR: 'it returns false'. Refute it at one input. -/
def watchTurnedWrong : ChangeSpec := { name := "watchTurned", fn := fun _ => fun
  | [d] => { results := [.lit (.bool false)], args := [d] }
  | _ => none }
def WatchTurnedWrongFalsely : Prop := watchTurnedRow.holds Try.pinned (OpenSpec.ofChange watchTurnedWrong)

/-- 'pommellaw09.WatchSets': WHATEVER THE INPUT: true; the input reads as it did. -/
def watchSetsSpec : ChangeSpec := { name := "watchSets", fn := fun _ => fun
  | [d1, d2] => { results := [.lit (.bool true)], args := [d1, d2] }
  | _ => none }
def watchSetsRow : OpenClaim := { program := "ytdkmepjedjclkaa", sum := "c706ff767644850fc4d2ab7c7194daa1dc9c2ae18227cab2270683ba43a3955a", func := "pommel/pommellaw09.WatchSets", spec := "watchSets", unfollowed := true, recurses := true, plainKeys := false, apart := false }
def WatchSetsSaid : Prop := watchSetsRow.holds Try.pinned (OpenSpec.ofChange watchSetsSpec)

/-- ITS FALSE NEIGHBOUR: 'it returns false'. Refute it at one input. -/
def watchSetsWrong : ChangeSpec := { name := "watchSets", fn := fun _ => fun
  | [d1, d2] => { results := [.lit (.bool false)], args := [d1, d2] }
  | _ => none }
def WatchSetsWrongFalsely : Prop := watchSetsRow.holds Try.pinned (OpenSpec.ofChange watchSetsWrong)

/-- 'pommellaw09.WatchMattern': WHATEVER THE INPUT: true; the input reads as it did. -/
def watchMatternSpec : ChangeSpec := { name := "watchMattern", fn := fun _ => fun
  | [d] => { results := [.lit (.bool true)], args := [d] }
  | _ => none }
def watchMatternRow : OpenClaim := { program := "ytdkmepjedjclkaa", sum := "c706ff767644850fc4d2ab7c7194daa1dc9c2ae18227cab2270683ba43a3955a", func := "pommel/pommellaw09.WatchMattern", spec := "watchMattern", unfollowed := true, recurses := true, plainKeys := false, apart := false }
def WatchMatternSaid : Prop := watchMatternRow.holds Try.pinned (OpenSpec.ofChange watchMatternSpec)

/-- ITS FALSE NEIGHBOUR: 'it returns false'. Refute it at one input. -/
def watchMatternWrong : ChangeSpec := { name := "watchMattern", fn := fun _ => fun
  | [d] => { results := [.lit (.bool false)], args := [d] }
  | _ => none }
def WatchMatternWrongFalsely : Prop := watchMatternRow.holds Try.pinned (OpenSpec.ofChange watchMatternWrong)

/-- 'pommellaw09.WatchCuts': WHATEVER THE INPUT: true; the input reads as it did. -/
def watchCutsSpec : ChangeSpec := { name := "watchCuts", fn := fun _ => fun
  | [d1, d2] => { results := [.lit (.bool true)], args := [d1, d2] }
  | _ => none }
def watchCutsRow : OpenClaim := { program := "ytdkmepjedjclkaa", sum := "c706ff767644850fc4d2ab7c7194daa1dc9c2ae18227cab2270683ba43a3955a", func := "pommel/pommellaw09.WatchCuts", spec := "watchCuts", unfollowed := true, recurses := true, plainKeys := false, apart := false }
def WatchCutsSaid : Prop := watchCutsRow.holds Try.pinned (OpenSpec.ofChange watchCutsSpec)

/-- ITS FALSE NEIGHBOUR: 'it returns false'. Refute it at one input. -/
def watchCutsWrong : ChangeSpec := { name := "watchCuts", fn := fun _ => fun
  | [d1, d2] => { results := [.lit (.bool false)], args := [d1, d2] }
  | _ => none }
def WatchCutsWrongFalsely : Prop := watchCutsRow.holds Try.pinned (OpenSpec.ofChange watchCutsWrong)

/-- 'pommellaw09.WatchModal': WHATEVER THE INPUT: true; the input reads as it did. -/
def watchModalSpec : ChangeSpec := { name := "watchModal", fn := fun _ => fun
  | [d1, d2] => { results := [.lit (.bool true)], args := [d1, d2] }
  | _ => none }
def watchModalRow : OpenClaim := { program := "ytdkmepjedjclkaa", sum := "c706ff767644850fc4d2ab7c7194daa1dc9c2ae18227cab2270683ba43a3955a", func := "pommel/pommellaw09.WatchModal", spec := "watchModal", unfollowed := true, recurses := true, plainKeys := false, apart := false }
def WatchModalSaid : Prop := watchModalRow.holds Try.pinned (OpenSpec.ofChange watchModalSpec)

/-- ITS FALSE NEIGHBOUR: 'it returns false'. Refute it at one input. -/
def watchModalWrong : ChangeSpec := { name := "watchModal", fn := fun _ => fun
  | [d1, d2] => { results := [.lit (.bool false)], args := [d1, d2] }
  | _ => none }
def WatchModalWrongFalsely : Prop := watchModalRow.holds Try.pinned (OpenSpec.ofChange watchModalWrong)

/-- 'pommellaw09.WatchClocks': WHATEVER THE INPUT: true; the input reads as it did. -/
def watchClocksSpec : ChangeSpec := { name := "watchClocks", fn := fun _ => fun
  | [d] => { results := [.lit (.bool true)], args := [d] }
  | _ => none }
def watchClocksRow : OpenClaim := { program := "ytdkmepjedjclkaa", sum := "c706ff767644850fc4d2ab7c7194daa1dc9c2ae18227cab2270683ba43a3955a", func := "pommel/pommellaw09.WatchClocks", spec := "watchClocks", unfollowed := true, recurses := true, plainKeys := false, apart := false }
def WatchClocksSaid : Prop := watchClocksRow.holds Try.pinned (OpenSpec.ofChange watchClocksSpec)

/-- ITS FALSE NEIGHBOUR: 'it returns false'. Refute it at one input. -/
def watchClocksWrong : ChangeSpec := { name := "watchClocks", fn := fun _ => fun
  | [d] => { results := [.lit (.bool false)], args := [d] }
  | _ => none }
def WatchClocksWrongFalsely : Prop := watchClocksRow.holds Try.pinned (OpenSpec.ofChange watchClocksWrong)

/-- 'pommeltop.TopSeams': WHATEVER THE INPUT: true; the input reads as it did. -/
def topSeamsSpec : ChangeSpec := { name := "topSeams", fn := fun _ => fun
  | [d1, d2, d3] => { results := [.lit (.bool true)], args := [d1, d2, d3] }
  | _ => none }
def topSeamsRow : OpenClaim := { program := "ytdkmepjedjclkaa", sum := "c706ff767644850fc4d2ab7c7194daa1dc9c2ae18227cab2270683ba43a3955a", func := "pommel/pommeltop.TopSeams", spec := "topSeams", unfollowed := true, recurses := true, plainKeys := false, apart := false }
def TopSeamsSaid : Prop := topSeamsRow.holds Try.pinned (OpenSpec.ofChange topSeamsSpec)

/-- ITS FALSE NEIGHBOUR: 'it returns false'. Refute it at one input. -/
def topSeamsWrong : ChangeSpec := { name := "topSeams", fn := fun _ => fun
  | [d1, d2, d3] => { results := [.lit (.bool false)], args := [d1, d2, d3] }
  | _ => none }
def TopSeamsWrongFalsely : Prop := topSeamsRow.holds Try.pinned (OpenSpec.ofChange topSeamsWrong)

/-- 'pommellaw09.WatchBirkhoff': WHATEVER THE INPUT: true; the input reads as it did. -/
def watchBirkhoffSpec : ChangeSpec := { name := "watchBirkhoff", fn := fun _ => fun
  | [d1, d2] => { results := [.lit (.bool true)], args := [d1, d2] }
  | _ => none }
def watchBirkhoffRow : OpenClaim := { program := "ytdkmepjedjclkaa", sum := "c706ff767644850fc4d2ab7c7194daa1dc9c2ae18227cab2270683ba43a3955a", func := "pommel/pommellaw09.WatchBirkhoff", spec := "watchBirkhoff", unfollowed := true, recurses := true, plainKeys := false, apart := false }
def WatchBirkhoffSaid : Prop := watchBirkhoffRow.holds Try.pinned (OpenSpec.ofChange watchBirkhoffSpec)

/-- ITS FALSE NEIGHBOUR: 'it returns false'. Refute it at one input. -/
def watchBirkhoffWrong : ChangeSpec := { name := "watchBirkhoff", fn := fun _ => fun
  | [d1, d2] => { results := [.lit (.bool false)], args := [d1, d2] }
  | _ => none }
def WatchBirkhoffWrongFalsely : Prop := watchBirkhoffRow.holds Try.pinned (OpenSpec.ofChange watchBirkhoffWrong)

/-- 'pommellaw09.WatchFlags': WHATEVER THE INPUT: true; the input reads as it did. -/
def watchFlagsSpec : ChangeSpec := { name := "watchFlags", fn := fun _ => fun
  | [d1, d2] => { results := [.lit (.bool true)], args := [d1, d2] }
  | _ => none }
def watchFlagsRow : OpenClaim := { program := "ytdkmepjedjclkaa", sum := "c706ff767644850fc4d2ab7c7194daa1dc9c2ae18227cab2270683ba43a3955a", func := "pommel/pommellaw09.WatchFlags", spec := "watchFlags", unfollowed := true, recurses := true, plainKeys := false, apart := false }
def WatchFlagsSaid : Prop := watchFlagsRow.holds Try.pinned (OpenSpec.ofChange watchFlagsSpec)

/-- ITS FALSE NEIGHBOUR: 'it returns false'. Refute it at one input. -/
def watchFlagsWrong : ChangeSpec := { name := "watchFlags", fn := fun _ => fun
  | [d1, d2] => { results := [.lit (.bool false)], args := [d1, d2] }
  | _ => none }
def WatchFlagsWrongFalsely : Prop := watchFlagsRow.holds Try.pinned (OpenSpec.ofChange watchFlagsWrong)

/-- 'pommellaw09.WatchGarg': WHATEVER THE INPUT: true; the input reads as it did. -/
def watchGargSpec : ChangeSpec := { name := "watchGarg", fn := fun _ => fun
  | [d1, d2] => { results := [.lit (.bool true)], args := [d1, d2] }
  | _ => none }
def watchGargRow : OpenClaim := { program := "ytdkmepjedjclkaa", sum := "c706ff767644850fc4d2ab7c7194daa1dc9c2ae18227cab2270683ba43a3955a", func := "pommel/pommellaw09.WatchGarg", spec := "watchGarg", unfollowed := true, recurses := true, plainKeys := false, apart := false }
def WatchGargSaid : Prop := watchGargRow.holds Try.pinned (OpenSpec.ofChange watchGargSpec)

/-- ITS FALSE NEIGHBOUR: 'it returns false'. Refute it at one input. -/
def watchGargWrong : ChangeSpec := { name := "watchGarg", fn := fun _ => fun
  | [d1, d2] => { results := [.lit (.bool false)], args := [d1, d2] }
  | _ => none }
def WatchGargWrongFalsely : Prop := watchGargRow.holds Try.pinned (OpenSpec.ofChange watchGargWrong)

/- THE SECOND FORM. 'bulk': how many values and letters a reading holds, each counted each time it is reached (what is shared counts as often as it is met; a slice's spare places count too). A statement '..UptoSaid' is the law's where the arguments, and the package variables that the reading takes, are together of bulk at most 1048576: NARROWER than '..Said'. Prove '..Said' where nothing that the law and all that it calls make is longer than what came in: it says more and counts as full. Else prove '..UptoSaid'. A law counts once. -/
mutual
def uptoBulk {H : Type} : DataW H → Nat
  | .lit (.string bytes) => bytes.length + 1
  | .lit _ => 1
  | .nil => 1
  | .ptr d => uptoBulk d + 1
  | .slice elems spare => uptoBulkAll elems + uptoBulkAll spare + 1
  | .agg parts => uptoBulkAll parts + 1
  | .iface _ d => uptoBulk d + 1
  | .map entries => uptoBulkEntries entries + 1
  | .held _ => 1
def uptoBulkAll {H : Type} : List (DataW H) → Nat
  | [] => 0
  | d :: r => uptoBulk d + uptoBulkAll r
def uptoBulkEntries {H : Type} : List (Lit × DataW H) → Nat
  | [] => 0
  | x :: r => uptoBulkEntry x + uptoBulkEntries r
def uptoBulkEntry {H : Type} : Lit × DataW H → Nat
  | (.string bytes, d) => bytes.length + uptoBulk d + 1
  | (_, d) => uptoBulk d + 1
 end
def uptoSmall : (H : Type) → List (DataW H) → Bool := fun _ ds => decide (uptoBulkAll ds ≤ 1048576)
def OpenSpec.upto (s : _root_.Go.ChangeSpec) : _root_.Go.OpenSpec := { _root_.Go.OpenSpec.ofChange s with cond := some uptoSmall }

/-- 'pommellaw09.WatchRanks', WHERE WHAT IT READS IS OF BULK AT MOST 1048576: true; the input reads as it did. -/
def watchRanksUptoRow : OpenClaim := { program := "ytdkmepjedjclkaa", sum := "c706ff767644850fc4d2ab7c7194daa1dc9c2ae18227cab2270683ba43a3955a", func := "pommel/pommellaw09.WatchRanks", spec := "watchRanks", unfollowed := true, recurses := true, plainKeys := false, apart := false, narrowed := true }
def WatchRanksUptoSaid : Prop := watchRanksUptoRow.holds Try.pinned (OpenSpec.upto watchRanksSpec)

/-- 'pommellaw09.WatchLattice', WHERE WHAT IT READS IS OF BULK AT MOST 1048576: true; the input reads as it did. -/
def watchLatticeUptoRow : OpenClaim := { program := "ytdkmepjedjclkaa", sum := "c706ff767644850fc4d2ab7c7194daa1dc9c2ae18227cab2270683ba43a3955a", func := "pommel/pommellaw09.WatchLattice", spec := "watchLattice", unfollowed := true, recurses := true, plainKeys := false, apart := false, narrowed := true }
def WatchLatticeUptoSaid : Prop := watchLatticeUptoRow.holds Try.pinned (OpenSpec.upto watchLatticeSpec)

/-- 'pommellaw09.WatchBack', WHERE WHAT IT READS IS OF BULK AT MOST 1048576: true; the input reads as it did. -/
def watchBackUptoRow : OpenClaim := { program := "ytdkmepjedjclkaa", sum := "c706ff767644850fc4d2ab7c7194daa1dc9c2ae18227cab2270683ba43a3955a", func := "pommel/pommellaw09.WatchBack", spec := "watchBack", unfollowed := true, recurses := true, plainKeys := false, apart := false, narrowed := true }
def WatchBackUptoSaid : Prop := watchBackUptoRow.holds Try.pinned (OpenSpec.upto watchBackSpec)

/-- 'pommellaw09.WatchBefore', WHERE WHAT IT READS IS OF BULK AT MOST 1048576: true; the input reads as it did. -/
def watchBeforeUptoRow : OpenClaim := { program := "ytdkmepjedjclkaa", sum := "c706ff767644850fc4d2ab7c7194daa1dc9c2ae18227cab2270683ba43a3955a", func := "pommel/pommellaw09.WatchBefore", spec := "watchBefore", unfollowed := true, recurses := true, plainKeys := false, apart := false, narrowed := true }
def WatchBeforeUptoSaid : Prop := watchBeforeUptoRow.holds Try.pinned (OpenSpec.upto watchBeforeSpec)

/-- 'pommellaw09.WatchTurned', WHERE WHAT IT READS IS OF BULK AT MOST 1048576: true; the input reads as it did. -/
def watchTurnedUptoRow : OpenClaim := { program := "ytdkmepjedjclkaa", sum := "c706ff767644850fc4d2ab7c7194daa1dc9c2ae18227cab2270683ba43a3955a", func := "pommel/pommellaw09.WatchTurned", spec := "watchTurned", unfollowed := true, recurses := true, plainKeys := false, apart := false, narrowed := true }
def WatchTurnedUptoSaid : Prop := watchTurnedUptoRow.holds Try.pinned (OpenSpec.upto watchTurnedSpec)

/-- 'pommellaw09.WatchSets', WHERE WHAT IT READS IS OF BULK AT MOST 1048576: true; the input reads as it did. -/
def watchSetsUptoRow : OpenClaim := { program := "ytdkmepjedjclkaa", sum := "c706ff767644850fc4d2ab7c7194daa1dc9c2ae18227cab2270683ba43a3955a", func := "pommel/pommellaw09.WatchSets", spec := "watchSets", unfollowed := true, recurses := true, plainKeys := false, apart := false, narrowed := true }
def WatchSetsUptoSaid : Prop := watchSetsUptoRow.holds Try.pinned (OpenSpec.upto watchSetsSpec)

/-- 'pommellaw09.WatchMattern', WHERE WHAT IT READS IS OF BULK AT MOST 1048576: true; the input reads as it did. -/
def watchMatternUptoRow : OpenClaim := { program := "ytdkmepjedjclkaa", sum := "c706ff767644850fc4d2ab7c7194daa1dc9c2ae18227cab2270683ba43a3955a", func := "pommel/pommellaw09.WatchMattern", spec := "watchMattern", unfollowed := true, recurses := true, plainKeys := false, apart := false, narrowed := true }
def WatchMatternUptoSaid : Prop := watchMatternUptoRow.holds Try.pinned (OpenSpec.upto watchMatternSpec)

/-- 'pommellaw09.WatchCuts', WHERE WHAT IT READS IS OF BULK AT MOST 1048576: true; the input reads as it did. -/
def watchCutsUptoRow : OpenClaim := { program := "ytdkmepjedjclkaa", sum := "c706ff767644850fc4d2ab7c7194daa1dc9c2ae18227cab2270683ba43a3955a", func := "pommel/pommellaw09.WatchCuts", spec := "watchCuts", unfollowed := true, recurses := true, plainKeys := false, apart := false, narrowed := true }
def WatchCutsUptoSaid : Prop := watchCutsUptoRow.holds Try.pinned (OpenSpec.upto watchCutsSpec)

/-- 'pommellaw09.WatchModal', WHERE WHAT IT READS IS OF BULK AT MOST 1048576: true; the input reads as it did. -/
def watchModalUptoRow : OpenClaim := { program := "ytdkmepjedjclkaa", sum := "c706ff767644850fc4d2ab7c7194daa1dc9c2ae18227cab2270683ba43a3955a", func := "pommel/pommellaw09.WatchModal", spec := "watchModal", unfollowed := true, recurses := true, plainKeys := false, apart := false, narrowed := true }
def WatchModalUptoSaid : Prop := watchModalUptoRow.holds Try.pinned (OpenSpec.upto watchModalSpec)

/-- 'pommellaw09.WatchClocks', WHERE WHAT IT READS IS OF BULK AT MOST 1048576: true; the input reads as it did. -/
def watchClocksUptoRow : OpenClaim := { program := "ytdkmepjedjclkaa", sum := "c706ff767644850fc4d2ab7c7194daa1dc9c2ae18227cab2270683ba43a3955a", func := "pommel/pommellaw09.WatchClocks", spec := "watchClocks", unfollowed := true, recurses := true, plainKeys := false, apart := false, narrowed := true }
def WatchClocksUptoSaid : Prop := watchClocksUptoRow.holds Try.pinned (OpenSpec.upto watchClocksSpec)

/-- 'pommeltop.TopSeams', WHERE WHAT IT READS IS OF BULK AT MOST 1048576: true; the input reads as it did. -/
def topSeamsUptoRow : OpenClaim := { program := "ytdkmepjedjclkaa", sum := "c706ff767644850fc4d2ab7c7194daa1dc9c2ae18227cab2270683ba43a3955a", func := "pommel/pommeltop.TopSeams", spec := "topSeams", unfollowed := true, recurses := true, plainKeys := false, apart := false, narrowed := true }
def TopSeamsUptoSaid : Prop := topSeamsUptoRow.holds Try.pinned (OpenSpec.upto topSeamsSpec)

/-- 'pommellaw09.WatchBirkhoff', WHERE WHAT IT READS IS OF BULK AT MOST 1048576: true; the input reads as it did. -/
def watchBirkhoffUptoRow : OpenClaim := { program := "ytdkmepjedjclkaa", sum := "c706ff767644850fc4d2ab7c7194daa1dc9c2ae18227cab2270683ba43a3955a", func := "pommel/pommellaw09.WatchBirkhoff", spec := "watchBirkhoff", unfollowed := true, recurses := true, plainKeys := false, apart := false, narrowed := true }
def WatchBirkhoffUptoSaid : Prop := watchBirkhoffUptoRow.holds Try.pinned (OpenSpec.upto watchBirkhoffSpec)

/-- 'pommellaw09.WatchFlags', WHERE WHAT IT READS IS OF BULK AT MOST 1048576: true; the input reads as it did. -/
def watchFlagsUptoRow : OpenClaim := { program := "ytdkmepjedjclkaa", sum := "c706ff767644850fc4d2ab7c7194daa1dc9c2ae18227cab2270683ba43a3955a", func := "pommel/pommellaw09.WatchFlags", spec := "watchFlags", unfollowed := true, recurses := true, plainKeys := false, apart := false, narrowed := true }
def WatchFlagsUptoSaid : Prop := watchFlagsUptoRow.holds Try.pinned (OpenSpec.upto watchFlagsSpec)

/-- 'pommellaw09.WatchGarg', WHERE WHAT IT READS IS OF BULK AT MOST 1048576: true; the input reads as it did. -/
def watchGargUptoRow : OpenClaim := { program := "ytdkmepjedjclkaa", sum := "c706ff767644850fc4d2ab7c7194daa1dc9c2ae18227cab2270683ba43a3955a", func := "pommel/pommellaw09.WatchGarg", spec := "watchGarg", unfollowed := true, recurses := true, plainKeys := false, apart := false, narrowed := true }
def WatchGargUptoSaid : Prop := watchGargUptoRow.holds Try.pinned (OpenSpec.upto watchGargSpec)

end Rows
end Go.Proofs.Ytdkmepjedjclkaa
