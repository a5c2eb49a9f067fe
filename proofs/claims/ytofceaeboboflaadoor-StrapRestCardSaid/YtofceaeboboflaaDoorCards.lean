/-
  DERIVED. GIVEN WITH THE SEED: THE CARDS: each row of YtofceaeboboflaaDoorRows.lean that lists a variable, with what it lists TIED to the program's text (the seventh form; the later family's looks); each row that meets fmt, with fmt's text TOLD by the authors' own Lean function (tested against real Go, not proved from fmt's source: count such statements apart). THE CARD IS WHAT COUNTS. Prove the row's statement (the work); the ties are given (YtofceaeboboflaaDoorTie.lean); close each card by the builder's one call (the guide's Derived/Test/ToyasCard.lean, 'card_holds'). Laid BY PROGRAM, IN A SANDBOX (cutbox-door.mjs). By AI agents, Wed Nov 11 2026. No macro, syntax, notation, axiom, sorry.
-/
import Derived.Test.YtofceaeboboflaaDoorRows
import GoSem.ClaimSeven
namespace Go.Proofs.YtofceaeboboflaaDoor
namespace Rows

/-- THE TIED CARD OF 'pommellaw04.StrapGroup'. -/
def strapGroupCard : Claim7 := { stood := { row := strapGroupRow, standIns := [], harness := (true, "31897285b7f6576ddbc273deb6b9132811ec0c4dcf349573b42a7fa5af8342e6"), looks := false }, kinds := [], alts := [], laidByText := true, laidKinds := [.widerDeep], laidTests := true, laidLooks := .later }
def StrapGroupCardSaid : Prop := Claim7.holds Tryd.pinned (.plain (OpenSpec.ofChange strapGroupSpec)) strapGroupCard

/-- THE TIED CARD OF 'pommellaw04.StrapCounts'. -/
def strapCountsCard : Claim7 := { stood := { row := strapCountsRow, standIns := [], harness := (true, "31897285b7f6576ddbc273deb6b9132811ec0c4dcf349573b42a7fa5af8342e6"), looks := false }, kinds := [], alts := [], laidByText := true, laidKinds := [.widerDeep], laidTests := true, laidLooks := .later }
def StrapCountsCardSaid : Prop := Claim7.holds Tryd.pinned (.plain (OpenSpec.ofChange strapCountsSpec)) strapCountsCard

/-- THE TIED CARD OF 'pommellaw04.StrapHall'. -/
def strapHallCard : Claim7 := { stood := { row := strapHallRow, standIns := [], harness := (true, "31897285b7f6576ddbc273deb6b9132811ec0c4dcf349573b42a7fa5af8342e6"), looks := false }, kinds := [], alts := [], laidByText := true, laidKinds := [.widerDeep], laidTests := true, laidLooks := .later }
def StrapHallCardSaid : Prop := Claim7.holds Tryd.pinned (.plain (OpenSpec.ofChange strapHallSpec)) strapHallCard

/-- THE TIED CARD OF 'pommellaw04.StrapRest'. -/
def strapRestCard : Claim7 := { stood := { row := strapRestRow, standIns := [], harness := (true, "31897285b7f6576ddbc273deb6b9132811ec0c4dcf349573b42a7fa5af8342e6"), looks := false }, kinds := [], alts := [], laidByText := true, laidKinds := [.widerDeep], laidTests := true, laidLooks := .later }
def StrapRestCardSaid : Prop := Claim7.holds Tryd.pinned (.plain (OpenSpec.ofChange strapRestSpec)) strapRestCard

/-- THE SECOND FORM's CARD OF 'pommellaw04.StrapGroup'. -/
def strapGroupUptoCard : Claim7 := { stood := { row := strapGroupUptoRow, standIns := [], harness := (true, "31897285b7f6576ddbc273deb6b9132811ec0c4dcf349573b42a7fa5af8342e6"), looks := false }, kinds := [], alts := [], laidByText := true, laidKinds := [.widerDeep], laidTests := true, laidLooks := .later }
def StrapGroupUptoCardSaid : Prop := Claim7.holds Tryd.pinned (.plain (OpenSpec.upto strapGroupSpec)) strapGroupUptoCard

/-- THE SECOND FORM's CARD OF 'pommellaw04.StrapCounts'. -/
def strapCountsUptoCard : Claim7 := { stood := { row := strapCountsUptoRow, standIns := [], harness := (true, "31897285b7f6576ddbc273deb6b9132811ec0c4dcf349573b42a7fa5af8342e6"), looks := false }, kinds := [], alts := [], laidByText := true, laidKinds := [.widerDeep], laidTests := true, laidLooks := .later }
def StrapCountsUptoCardSaid : Prop := Claim7.holds Tryd.pinned (.plain (OpenSpec.upto strapCountsSpec)) strapCountsUptoCard

/-- THE SECOND FORM's CARD OF 'pommellaw04.StrapHall'. -/
def strapHallUptoCard : Claim7 := { stood := { row := strapHallUptoRow, standIns := [], harness := (true, "31897285b7f6576ddbc273deb6b9132811ec0c4dcf349573b42a7fa5af8342e6"), looks := false }, kinds := [], alts := [], laidByText := true, laidKinds := [.widerDeep], laidTests := true, laidLooks := .later }
def StrapHallUptoCardSaid : Prop := Claim7.holds Tryd.pinned (.plain (OpenSpec.upto strapHallSpec)) strapHallUptoCard

/-- THE SECOND FORM's CARD OF 'pommellaw04.StrapRest'. -/
def strapRestUptoCard : Claim7 := { stood := { row := strapRestUptoRow, standIns := [], harness := (true, "31897285b7f6576ddbc273deb6b9132811ec0c4dcf349573b42a7fa5af8342e6"), looks := false }, kinds := [], alts := [], laidByText := true, laidKinds := [.widerDeep], laidTests := true, laidLooks := .later }
def StrapRestUptoCardSaid : Prop := Claim7.holds Tryd.pinned (.plain (OpenSpec.upto strapRestSpec)) strapRestUptoCard
end Rows
end Go.Proofs.YtofceaeboboflaaDoor
