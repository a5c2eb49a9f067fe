/-
  No cell of these rows narrows 'for every input' (looked for: loops, veiled, ifaces, maps, wideKeys, modest, calm, conditions, laid).
  DERIVED. THE GIVEN ROWS OF THIS SEAT. 14 by the template 'for every input the law returns true; each argument reads behind the call as it read before'; 0 by the template 'total and deterministic' (their statements: YthnpflkpjimkfaaTotals.lean).
  GIVEN WITH THE SEED: the statements are not yours to turn. If you find one false, say at which input.
  Laid BY PROGRAM, IN A SANDBOX (cutbox-rows.mjs): the forced cells as the released guide's own fill.sh prints them over the translation 891918cb985b7cf5… (all of the seat's roots in one cut). By AI agents, Wed Nov 11 2026. No macro, syntax, notation, axiom, sorry.
-/
import Derived.Test.YthnpflkpjimkfaaChecked
import GoSem.Claim
import GoSem.ClaimJoined
import GoSem.ClaimMapViews
import Derived.JoinedTies
import Derived.KernelRfl
namespace Go.Proofs.Ythnpflkpjimkfaa
/- THE CELL 'sum', in the pinned program and in every row, IS THE sha256 OF THE DUMP (.gsa) THAT YthnpflkpjimkfaaProg.lean LOADS. Nothing in Lean hashes anything: it is a label: what it is worth is what the hold of that sum in a sandbox is worth. -/
noncomputable def Try.pinned : Pinned := { name := "ythnpflkpjimkfaa", sum := "891918cb985b7cf5d17178ca694dc33d173a8a26b091993accc5b96330c8fd5d", checked := Try.checked }
namespace Rows
def none {H : Type} : Left H := { results := [], args := [] }

/-- 'pommellaw07.BrandShorts': WHATEVER THE INPUT: true; the input reads as it did. -/
def brandShortsSpec : ChangeSpec := { name := "brandShorts", fn := fun _ => fun
  | [d1, d2] => { results := [.lit (.bool true)], args := [d1, d2] }
  | _ => none }
def brandShortsRow : OpenClaim := { program := "ythnpflkpjimkfaa", sum := "891918cb985b7cf5d17178ca694dc33d173a8a26b091993accc5b96330c8fd5d", func := "pommel/pommellaw07.BrandShorts", spec := "brandShorts", inPlace := ["internal/bytealg.abigen_runtime_cmpstring"], unfollowed := true, recurses := true, plainKeys := false, apart := false }
def BrandShortsSaid : Prop := brandShortsRow.holds Try.pinned (OpenSpec.ofChange brandShortsSpec)

/-- ITS FALSE NEIGHBOUR: 'it returns false'. Refute it at one input. -/
def brandShortsWrong : ChangeSpec := { name := "brandShorts", fn := fun _ => fun
  | [d1, d2] => { results := [.lit (.bool false)], args := [d1, d2] }
  | _ => none }
def BrandShortsWrongFalsely : Prop := brandShortsRow.holds Try.pinned (OpenSpec.ofChange brandShortsWrong)

/-- 'pommellaw07.BrandCerny': WHATEVER THE INPUT: true; the input reads as it did. -/
def brandCernySpec : ChangeSpec := { name := "brandCerny", fn := fun _ => fun
  | [d] => { results := [.lit (.bool true)], args := [d] }
  | _ => none }
def brandCernyRow : OpenClaim := { program := "ythnpflkpjimkfaa", sum := "891918cb985b7cf5d17178ca694dc33d173a8a26b091993accc5b96330c8fd5d", func := "pommel/pommellaw07.BrandCerny", spec := "brandCerny", inPlace := ["internal/bytealg.abigen_runtime_cmpstring"], unfollowed := true, recurses := true, plainKeys := false, apart := false }
def BrandCernySaid : Prop := brandCernyRow.holds Try.pinned (OpenSpec.ofChange brandCernySpec)

/-- ITS FALSE NEIGHBOUR: 'it returns false'. Refute it at one input. -/
def brandCernyWrong : ChangeSpec := { name := "brandCerny", fn := fun _ => fun
  | [d] => { results := [.lit (.bool false)], args := [d] }
  | _ => none }
def BrandCernyWrongFalsely : Prop := brandCernyRow.holds Try.pinned (OpenSpec.ofChange brandCernyWrong)

/-- 'pommellaw07.BrandSmallest': WHATEVER THE INPUT: true; the input reads as it did. -/
def brandSmallestSpec : ChangeSpec := { name := "brandSmallest", fn := fun _ => fun
  | [d] => { results := [.lit (.bool true)], args := [d] }
  | _ => none }
def brandSmallestRow : OpenClaim := { program := "ythnpflkpjimkfaa", sum := "891918cb985b7cf5d17178ca694dc33d173a8a26b091993accc5b96330c8fd5d", func := "pommel/pommellaw07.BrandSmallest", spec := "brandSmallest", inPlace := ["internal/bytealg.abigen_runtime_cmpstring"], unfollowed := true, recurses := true, plainKeys := false, apart := false }
def BrandSmallestSaid : Prop := brandSmallestRow.holds Try.pinned (OpenSpec.ofChange brandSmallestSpec)

/-- ITS FALSE NEIGHBOUR: 'it returns false'. Refute it at one input. -/
def brandSmallestWrong : ChangeSpec := { name := "brandSmallest", fn := fun _ => fun
  | [d] => { results := [.lit (.bool false)], args := [d] }
  | _ => none }
def BrandSmallestWrongFalsely : Prop := brandSmallestRow.holds Try.pinned (OpenSpec.ofChange brandSmallestWrong)

/-- 'pommellaw07.BrandAccepts': WHATEVER THE INPUT: true; the input reads as it did. -/
def brandAcceptsSpec : ChangeSpec := { name := "brandAccepts", fn := fun _ => fun
  | [d1, d2] => { results := [.lit (.bool true)], args := [d1, d2] }
  | _ => none }
def brandAcceptsRow : OpenClaim := { program := "ythnpflkpjimkfaa", sum := "891918cb985b7cf5d17178ca694dc33d173a8a26b091993accc5b96330c8fd5d", func := "pommel/pommellaw07.BrandAccepts", spec := "brandAccepts", inPlace := ["internal/bytealg.abigen_runtime_cmpstring"], unfollowed := true, recurses := true, plainKeys := false, apart := false }
def BrandAcceptsSaid : Prop := brandAcceptsRow.holds Try.pinned (OpenSpec.ofChange brandAcceptsSpec)

/-- ITS FALSE NEIGHBOUR: 'it returns false'. Refute it at one input. -/
def brandAcceptsWrong : ChangeSpec := { name := "brandAccepts", fn := fun _ => fun
  | [d1, d2] => { results := [.lit (.bool false)], args := [d1, d2] }
  | _ => none }
def BrandAcceptsWrongFalsely : Prop := brandAcceptsRow.holds Try.pinned (OpenSpec.ofChange brandAcceptsWrong)

/-- 'pommellaw07.BrandDiffers': WHATEVER THE INPUT: true; the input reads as it did. -/
def brandDiffersSpec : ChangeSpec := { name := "brandDiffers", fn := fun _ => fun
  | [d1, d2] => { results := [.lit (.bool true)], args := [d1, d2] }
  | _ => none }
def brandDiffersRow : OpenClaim := { program := "ythnpflkpjimkfaa", sum := "891918cb985b7cf5d17178ca694dc33d173a8a26b091993accc5b96330c8fd5d", func := "pommel/pommellaw07.BrandDiffers", spec := "brandDiffers", inPlace := ["internal/bytealg.abigen_runtime_cmpstring"], unfollowed := true, recurses := true, plainKeys := false, apart := false }
def BrandDiffersSaid : Prop := brandDiffersRow.holds Try.pinned (OpenSpec.ofChange brandDiffersSpec)

/-- ITS FALSE NEIGHBOUR: 'it returns false'. Refute it at one input. -/
def brandDiffersWrong : ChangeSpec := { name := "brandDiffers", fn := fun _ => fun
  | [d1, d2] => { results := [.lit (.bool false)], args := [d1, d2] }
  | _ => none }
def BrandDiffersWrongFalsely : Prop := brandDiffersRow.holds Try.pinned (OpenSpec.ofChange brandDiffersWrong)

/-- 'pommellaw07.BrandProduct': WHATEVER THE INPUT: true; the input reads as it did. -/
def brandProductSpec : ChangeSpec := { name := "brandProduct", fn := fun _ => fun
  | [d1, d2, d3] => { results := [.lit (.bool true)], args := [d1, d2, d3] }
  | _ => none }
def brandProductRow : OpenClaim := { program := "ythnpflkpjimkfaa", sum := "891918cb985b7cf5d17178ca694dc33d173a8a26b091993accc5b96330c8fd5d", func := "pommel/pommellaw07.BrandProduct", spec := "brandProduct", inPlace := ["internal/bytealg.abigen_runtime_cmpstring"], unfollowed := true, recurses := true, plainKeys := false, apart := false }
def BrandProductSaid : Prop := brandProductRow.holds Try.pinned (OpenSpec.ofChange brandProductSpec)

/-- ITS FALSE NEIGHBOUR: 'it returns false'. Refute it at one input. -/
def brandProductWrong : ChangeSpec := { name := "brandProduct", fn := fun _ => fun
  | [d1, d2, d3] => { results := [.lit (.bool false)], args := [d1, d2, d3] }
  | _ => none }
def BrandProductWrongFalsely : Prop := brandProductRow.holds Try.pinned (OpenSpec.ofChange brandProductWrong)

/-- 'pommellaw07.BrandMonoids': WHATEVER THE INPUT: true; the input reads as it did. -/
def brandMonoidsSpec : ChangeSpec := { name := "brandMonoids", fn := fun _ => fun
  | [d1, d2] => { results := [.lit (.bool true)], args := [d1, d2] }
  | _ => none }
def brandMonoidsRow : OpenClaim := { program := "ythnpflkpjimkfaa", sum := "891918cb985b7cf5d17178ca694dc33d173a8a26b091993accc5b96330c8fd5d", func := "pommel/pommellaw07.BrandMonoids", spec := "brandMonoids", inPlace := ["internal/bytealg.abigen_runtime_cmpstring"], unfollowed := true, recurses := true, plainKeys := false, apart := false }
def BrandMonoidsSaid : Prop := brandMonoidsRow.holds Try.pinned (OpenSpec.ofChange brandMonoidsSpec)

/-- ITS FALSE NEIGHBOUR: 'it returns false'. Refute it at one input. -/
def brandMonoidsWrong : ChangeSpec := { name := "brandMonoids", fn := fun _ => fun
  | [d1, d2] => { results := [.lit (.bool false)], args := [d1, d2] }
  | _ => none }
def BrandMonoidsWrongFalsely : Prop := brandMonoidsRow.holds Try.pinned (OpenSpec.ofChange brandMonoidsWrong)

/-- 'pommellaw07.BrandPowers': WHATEVER THE INPUT: true; the input reads as it did. -/
def brandPowersSpec : ChangeSpec := { name := "brandPowers", fn := fun _ => fun
  | [d1, d2] => { results := [.lit (.bool true)], args := [d1, d2] }
  | _ => none }
def brandPowersRow : OpenClaim := { program := "ythnpflkpjimkfaa", sum := "891918cb985b7cf5d17178ca694dc33d173a8a26b091993accc5b96330c8fd5d", func := "pommel/pommellaw07.BrandPowers", spec := "brandPowers", inPlace := ["internal/bytealg.abigen_runtime_cmpstring"], unfollowed := true, recurses := true, plainKeys := false, apart := false }
def BrandPowersSaid : Prop := brandPowersRow.holds Try.pinned (OpenSpec.ofChange brandPowersSpec)

/-- ITS FALSE NEIGHBOUR: 'it returns false'. Refute it at one input. -/
def brandPowersWrong : ChangeSpec := { name := "brandPowers", fn := fun _ => fun
  | [d1, d2] => { results := [.lit (.bool false)], args := [d1, d2] }
  | _ => none }
def BrandPowersWrongFalsely : Prop := brandPowersRow.holds Try.pinned (OpenSpec.ofChange brandPowersWrong)

/-- 'pommellaw07.BrandSame': WHATEVER THE INPUT: true; the input reads as it did. -/
def brandSameSpec : ChangeSpec := { name := "brandSame", fn := fun _ => fun
  | [d1, d2, d3] => { results := [.lit (.bool true)], args := [d1, d2, d3] }
  | _ => none }
def brandSameRow : OpenClaim := { program := "ythnpflkpjimkfaa", sum := "891918cb985b7cf5d17178ca694dc33d173a8a26b091993accc5b96330c8fd5d", func := "pommel/pommellaw07.BrandSame", spec := "brandSame", inPlace := ["internal/bytealg.abigen_runtime_cmpstring"], unfollowed := true, recurses := true, plainKeys := false, apart := false }
def BrandSameSaid : Prop := brandSameRow.holds Try.pinned (OpenSpec.ofChange brandSameSpec)

/-- ITS FALSE NEIGHBOUR: 'it returns false'. Refute it at one input. -/
def brandSameWrong : ChangeSpec := { name := "brandSame", fn := fun _ => fun
  | [d1, d2, d3] => { results := [.lit (.bool false)], args := [d1, d2, d3] }
  | _ => none }
def BrandSameWrongFalsely : Prop := brandSameRow.holds Try.pinned (OpenSpec.ofChange brandSameWrong)

/-- 'pommellaw07.BrandTurned': WHATEVER THE INPUT: true; the input reads as it did. -/
def brandTurnedSpec : ChangeSpec := { name := "brandTurned", fn := fun _ => fun
  | [d] => { results := [.lit (.bool true)], args := [d] }
  | _ => none }
def brandTurnedRow : OpenClaim := { program := "ythnpflkpjimkfaa", sum := "891918cb985b7cf5d17178ca694dc33d173a8a26b091993accc5b96330c8fd5d", func := "pommel/pommellaw07.BrandTurned", spec := "brandTurned", inPlace := ["internal/bytealg.abigen_runtime_cmpstring"], unfollowed := true, recurses := true, plainKeys := false, apart := false }
def BrandTurnedSaid : Prop := brandTurnedRow.holds Try.pinned (OpenSpec.ofChange brandTurnedSpec)

/-- ITS FALSE NEIGHBOUR: 'it returns false'. Refute it at one input. -/
def brandTurnedWrong : ChangeSpec := { name := "brandTurned", fn := fun _ => fun
  | [d] => { results := [.lit (.bool false)], args := [d] }
  | _ => none }
def BrandTurnedWrongFalsely : Prop := brandTurnedRow.holds Try.pinned (OpenSpec.ofChange brandTurnedWrong)

/-- 'pommellaw07.BrandClasses': WHATEVER THE INPUT: true; the input reads as it did. -/
def brandClassesSpec : ChangeSpec := { name := "brandClasses", fn := fun _ => fun
  | [d] => { results := [.lit (.bool true)], args := [d] }
  | _ => none }
def brandClassesRow : OpenClaim := { program := "ythnpflkpjimkfaa", sum := "891918cb985b7cf5d17178ca694dc33d173a8a26b091993accc5b96330c8fd5d", func := "pommel/pommellaw07.BrandClasses", spec := "brandClasses", inPlace := ["internal/bytealg.abigen_runtime_cmpstring"], unfollowed := true, recurses := true, plainKeys := false, apart := false }
def BrandClassesSaid : Prop := brandClassesRow.holds Try.pinned (OpenSpec.ofChange brandClassesSpec)

/-- ITS FALSE NEIGHBOUR: 'it returns false'. Refute it at one input. -/
def brandClassesWrong : ChangeSpec := { name := "brandClasses", fn := fun _ => fun
  | [d] => { results := [.lit (.bool false)], args := [d] }
  | _ => none }
def BrandClassesWrongFalsely : Prop := brandClassesRow.holds Try.pinned (OpenSpec.ofChange brandClassesWrong)

/-- 'pommellaw07.BrandGreen': WHATEVER THE INPUT: true; the input reads as it did. -/
def brandGreenSpec : ChangeSpec := { name := "brandGreen", fn := fun _ => fun
  | [d] => { results := [.lit (.bool true)], args := [d] }
  | _ => none }
def brandGreenRow : OpenClaim := { program := "ythnpflkpjimkfaa", sum := "891918cb985b7cf5d17178ca694dc33d173a8a26b091993accc5b96330c8fd5d", func := "pommel/pommellaw07.BrandGreen", spec := "brandGreen", inPlace := ["internal/bytealg.abigen_runtime_cmpstring"], unfollowed := true, recurses := true, plainKeys := false, apart := false }
def BrandGreenSaid : Prop := brandGreenRow.holds Try.pinned (OpenSpec.ofChange brandGreenSpec)

/-- ITS FALSE NEIGHBOUR: 'it returns false'. Refute it at one input. -/
def brandGreenWrong : ChangeSpec := { name := "brandGreen", fn := fun _ => fun
  | [d] => { results := [.lit (.bool false)], args := [d] }
  | _ => none }
def BrandGreenWrongFalsely : Prop := brandGreenRow.holds Try.pinned (OpenSpec.ofChange brandGreenWrong)

/-- 'pommellaw07.BrandGroups': WHATEVER THE INPUT: true; the input reads as it did. -/
def brandGroupsSpec : ChangeSpec := { name := "brandGroups", fn := fun _ => fun
  | [d] => { results := [.lit (.bool true)], args := [d] }
  | _ => none }
def brandGroupsRow : OpenClaim := { program := "ythnpflkpjimkfaa", sum := "891918cb985b7cf5d17178ca694dc33d173a8a26b091993accc5b96330c8fd5d", func := "pommel/pommellaw07.BrandGroups", spec := "brandGroups", inPlace := ["internal/bytealg.abigen_runtime_cmpstring"], unfollowed := true, recurses := true, plainKeys := false, apart := false }
def BrandGroupsSaid : Prop := brandGroupsRow.holds Try.pinned (OpenSpec.ofChange brandGroupsSpec)

/-- ITS FALSE NEIGHBOUR: 'it returns false'. Refute it at one input. -/
def brandGroupsWrong : ChangeSpec := { name := "brandGroups", fn := fun _ => fun
  | [d] => { results := [.lit (.bool false)], args := [d] }
  | _ => none }
def BrandGroupsWrongFalsely : Prop := brandGroupsRow.holds Try.pinned (OpenSpec.ofChange brandGroupsWrong)

/-- 'pommellaw07.BrandSimon': WHATEVER THE INPUT: true; the input reads as it did. -/
def brandSimonSpec : ChangeSpec := { name := "brandSimon", fn := fun _ => fun
  | [d1, d2] => { results := [.lit (.bool true)], args := [d1, d2] }
  | _ => none }
def brandSimonRow : OpenClaim := { program := "ythnpflkpjimkfaa", sum := "891918cb985b7cf5d17178ca694dc33d173a8a26b091993accc5b96330c8fd5d", func := "pommel/pommellaw07.BrandSimon", spec := "brandSimon", inPlace := ["internal/bytealg.abigen_runtime_cmpstring"], unfollowed := true, recurses := true, plainKeys := false, apart := false }
def BrandSimonSaid : Prop := brandSimonRow.holds Try.pinned (OpenSpec.ofChange brandSimonSpec)

/-- ITS FALSE NEIGHBOUR: 'it returns false'. Refute it at one input. -/
def brandSimonWrong : ChangeSpec := { name := "brandSimon", fn := fun _ => fun
  | [d1, d2] => { results := [.lit (.bool false)], args := [d1, d2] }
  | _ => none }
def BrandSimonWrongFalsely : Prop := brandSimonRow.holds Try.pinned (OpenSpec.ofChange brandSimonWrong)

/- THE SECOND FORM. 'bulk': how many values and letters a reading holds, each counted each time it is reached (what is shared counts as often as it is met; a slice's spare places count too). A statement '..UptoSaid' is the law's where the arguments, and the package variables that the reading takes, are together of bulk at most 1048576: NARROWER than '..Said'. Prove '..Said' where nothing that the law and all that it calls make is longer than what came in: it says more and counts as full. Else prove '..UptoSaid'. A law counts once. -/
mutual
def uptoBulk {H : Type} : DataW H → Nat
  | .lit (.string bytes) => bytes.length + 1
  | .lit _ => 1
  | .nil => 1
  | .ptr d => uptoBulk d + 1
  | .slice elems spare => uptoBulkAll elems + uptoBulkAll spare + 1
  | .agg parts => uptoBulkAll parts + 1
  | .iface _ d => uptoBulk d + 1
  | .map entries => uptoBulkEntries entries + 1
  | .held _ => 1
def uptoBulkAll {H : Type} : List (DataW H) → Nat
  | [] => 0
  | d :: r => uptoBulk d + uptoBulkAll r
def uptoBulkEntries {H : Type} : List (Lit × DataW H) → Nat
  | [] => 0
  | x :: r => uptoBulkEntry x + uptoBulkEntries r
def uptoBulkEntry {H : Type} : Lit × DataW H → Nat
  | (.string bytes, d) => bytes.length + uptoBulk d + 1
  | (_, d) => uptoBulk d + 1
 end
def uptoSmall : (H : Type) → List (DataW H) → Bool := fun _ ds => decide (uptoBulkAll ds ≤ 1048576)
def OpenSpec.upto (s : _root_.Go.ChangeSpec) : _root_.Go.OpenSpec := { _root_.Go.OpenSpec.ofChange s with cond := some uptoSmall }

/-- 'pommellaw07.BrandShorts', WHERE WHAT IT READS IS OF BULK AT MOST 1048576: true; the input reads as it did. -/
def brandShortsUptoRow : OpenClaim := { program := "ythnpflkpjimkfaa", sum := "891918cb985b7cf5d17178ca694dc33d173a8a26b091993accc5b96330c8fd5d", func := "pommel/pommellaw07.BrandShorts", spec := "brandShorts", inPlace := ["internal/bytealg.abigen_runtime_cmpstring"], unfollowed := true, recurses := true, plainKeys := false, apart := false, narrowed := true }
def BrandShortsUptoSaid : Prop := brandShortsUptoRow.holds Try.pinned (OpenSpec.upto brandShortsSpec)

/-- 'pommellaw07.BrandCerny', WHERE WHAT IT READS IS OF BULK AT MOST 1048576: true; the input reads as it did. -/
def brandCernyUptoRow : OpenClaim := { program := "ythnpflkpjimkfaa", sum := "891918cb985b7cf5d17178ca694dc33d173a8a26b091993accc5b96330c8fd5d", func := "pommel/pommellaw07.BrandCerny", spec := "brandCerny", inPlace := ["internal/bytealg.abigen_runtime_cmpstring"], unfollowed := true, recurses := true, plainKeys := false, apart := false, narrowed := true }
def BrandCernyUptoSaid : Prop := brandCernyUptoRow.holds Try.pinned (OpenSpec.upto brandCernySpec)

/-- 'pommellaw07.BrandSmallest', WHERE WHAT IT READS IS OF BULK AT MOST 1048576: true; the input reads as it did. -/
def brandSmallestUptoRow : OpenClaim := { program := "ythnpflkpjimkfaa", sum := "891918cb985b7cf5d17178ca694dc33d173a8a26b091993accc5b96330c8fd5d", func := "pommel/pommellaw07.BrandSmallest", spec := "brandSmallest", inPlace := ["internal/bytealg.abigen_runtime_cmpstring"], unfollowed := true, recurses := true, plainKeys := false, apart := false, narrowed := true }
def BrandSmallestUptoSaid : Prop := brandSmallestUptoRow.holds Try.pinned (OpenSpec.upto brandSmallestSpec)

/-- 'pommellaw07.BrandAccepts', WHERE WHAT IT READS IS OF BULK AT MOST 1048576: true; the input reads as it did. -/
def brandAcceptsUptoRow : OpenClaim := { program := "ythnpflkpjimkfaa", sum := "891918cb985b7cf5d17178ca694dc33d173a8a26b091993accc5b96330c8fd5d", func := "pommel/pommellaw07.BrandAccepts", spec := "brandAccepts", inPlace := ["internal/bytealg.abigen_runtime_cmpstring"], unfollowed := true, recurses := true, plainKeys := false, apart := false, narrowed := true }
def BrandAcceptsUptoSaid : Prop := brandAcceptsUptoRow.holds Try.pinned (OpenSpec.upto brandAcceptsSpec)

/-- 'pommellaw07.BrandDiffers', WHERE WHAT IT READS IS OF BULK AT MOST 1048576: true; the input reads as it did. -/
def brandDiffersUptoRow : OpenClaim := { program := "ythnpflkpjimkfaa", sum := "891918cb985b7cf5d17178ca694dc33d173a8a26b091993accc5b96330c8fd5d", func := "pommel/pommellaw07.BrandDiffers", spec := "brandDiffers", inPlace := ["internal/bytealg.abigen_runtime_cmpstring"], unfollowed := true, recurses := true, plainKeys := false, apart := false, narrowed := true }
def BrandDiffersUptoSaid : Prop := brandDiffersUptoRow.holds Try.pinned (OpenSpec.upto brandDiffersSpec)

/-- 'pommellaw07.BrandProduct', WHERE WHAT IT READS IS OF BULK AT MOST 1048576: true; the input reads as it did. -/
def brandProductUptoRow : OpenClaim := { program := "ythnpflkpjimkfaa", sum := "891918cb985b7cf5d17178ca694dc33d173a8a26b091993accc5b96330c8fd5d", func := "pommel/pommellaw07.BrandProduct", spec := "brandProduct", inPlace := ["internal/bytealg.abigen_runtime_cmpstring"], unfollowed := true, recurses := true, plainKeys := false, apart := false, narrowed := true }
def BrandProductUptoSaid : Prop := brandProductUptoRow.holds Try.pinned (OpenSpec.upto brandProductSpec)

/-- 'pommellaw07.BrandMonoids', WHERE WHAT IT READS IS OF BULK AT MOST 1048576: true; the input reads as it did. -/
def brandMonoidsUptoRow : OpenClaim := { program := "ythnpflkpjimkfaa", sum := "891918cb985b7cf5d17178ca694dc33d173a8a26b091993accc5b96330c8fd5d", func := "pommel/pommellaw07.BrandMonoids", spec := "brandMonoids", inPlace := ["internal/bytealg.abigen_runtime_cmpstring"], unfollowed := true, recurses := true, plainKeys := false, apart := false, narrowed := true }
def BrandMonoidsUptoSaid : Prop := brandMonoidsUptoRow.holds Try.pinned (OpenSpec.upto brandMonoidsSpec)

/-- 'pommellaw07.BrandPowers', WHERE WHAT IT READS IS OF BULK AT MOST 1048576: true; the input reads as it did. -/
def brandPowersUptoRow : OpenClaim := { program := "ythnpflkpjimkfaa", sum := "891918cb985b7cf5d17178ca694dc33d173a8a26b091993accc5b96330c8fd5d", func := "pommel/pommellaw07.BrandPowers", spec := "brandPowers", inPlace := ["internal/bytealg.abigen_runtime_cmpstring"], unfollowed := true, recurses := true, plainKeys := false, apart := false, narrowed := true }
def BrandPowersUptoSaid : Prop := brandPowersUptoRow.holds Try.pinned (OpenSpec.upto brandPowersSpec)

/-- 'pommellaw07.BrandSame', WHERE WHAT IT READS IS OF BULK AT MOST 1048576: true; the input reads as it did. -/
def brandSameUptoRow : OpenClaim := { program := "ythnpflkpjimkfaa", sum := "891918cb985b7cf5d17178ca694dc33d173a8a26b091993accc5b96330c8fd5d", func := "pommel/pommellaw07.BrandSame", spec := "brandSame", inPlace := ["internal/bytealg.abigen_runtime_cmpstring"], unfollowed := true, recurses := true, plainKeys := false, apart := false, narrowed := true }
def BrandSameUptoSaid : Prop := brandSameUptoRow.holds Try.pinned (OpenSpec.upto brandSameSpec)

/-- 'pommellaw07.BrandTurned', WHERE WHAT IT READS IS OF BULK AT MOST 1048576: true; the input reads as it did. -/
def brandTurnedUptoRow : OpenClaim := { program := "ythnpflkpjimkfaa", sum := "891918cb985b7cf5d17178ca694dc33d173a8a26b091993accc5b96330c8fd5d", func := "pommel/pommellaw07.BrandTurned", spec := "brandTurned", inPlace := ["internal/bytealg.abigen_runtime_cmpstring"], unfollowed := true, recurses := true, plainKeys := false, apart := false, narrowed := true }
def BrandTurnedUptoSaid : Prop := brandTurnedUptoRow.holds Try.pinned (OpenSpec.upto brandTurnedSpec)

/-- 'pommellaw07.BrandClasses', WHERE WHAT IT READS IS OF BULK AT MOST 1048576: true; the input reads as it did. -/
def brandClassesUptoRow : OpenClaim := { program := "ythnpflkpjimkfaa", sum := "891918cb985b7cf5d17178ca694dc33d173a8a26b091993accc5b96330c8fd5d", func := "pommel/pommellaw07.BrandClasses", spec := "brandClasses", inPlace := ["internal/bytealg.abigen_runtime_cmpstring"], unfollowed := true, recurses := true, plainKeys := false, apart := false, narrowed := true }
def BrandClassesUptoSaid : Prop := brandClassesUptoRow.holds Try.pinned (OpenSpec.upto brandClassesSpec)

/-- 'pommellaw07.BrandGreen', WHERE WHAT IT READS IS OF BULK AT MOST 1048576: true; the input reads as it did. -/
def brandGreenUptoRow : OpenClaim := { program := "ythnpflkpjimkfaa", sum := "891918cb985b7cf5d17178ca694dc33d173a8a26b091993accc5b96330c8fd5d", func := "pommel/pommellaw07.BrandGreen", spec := "brandGreen", inPlace := ["internal/bytealg.abigen_runtime_cmpstring"], unfollowed := true, recurses := true, plainKeys := false, apart := false, narrowed := true }
def BrandGreenUptoSaid : Prop := brandGreenUptoRow.holds Try.pinned (OpenSpec.upto brandGreenSpec)

/-- 'pommellaw07.BrandGroups', WHERE WHAT IT READS IS OF BULK AT MOST 1048576: true; the input reads as it did. -/
def brandGroupsUptoRow : OpenClaim := { program := "ythnpflkpjimkfaa", sum := "891918cb985b7cf5d17178ca694dc33d173a8a26b091993accc5b96330c8fd5d", func := "pommel/pommellaw07.BrandGroups", spec := "brandGroups", inPlace := ["internal/bytealg.abigen_runtime_cmpstring"], unfollowed := true, recurses := true, plainKeys := false, apart := false, narrowed := true }
def BrandGroupsUptoSaid : Prop := brandGroupsUptoRow.holds Try.pinned (OpenSpec.upto brandGroupsSpec)

/-- 'pommellaw07.BrandSimon', WHERE WHAT IT READS IS OF BULK AT MOST 1048576: true; the input reads as it did. -/
def brandSimonUptoRow : OpenClaim := { program := "ythnpflkpjimkfaa", sum := "891918cb985b7cf5d17178ca694dc33d173a8a26b091993accc5b96330c8fd5d", func := "pommel/pommellaw07.BrandSimon", spec := "brandSimon", inPlace := ["internal/bytealg.abigen_runtime_cmpstring"], unfollowed := true, recurses := true, plainKeys := false, apart := false, narrowed := true }
def BrandSimonUptoSaid : Prop := brandSimonUptoRow.holds Try.pinned (OpenSpec.upto brandSimonSpec)

end Rows
end Go.Proofs.Ythnpflkpjimkfaa
