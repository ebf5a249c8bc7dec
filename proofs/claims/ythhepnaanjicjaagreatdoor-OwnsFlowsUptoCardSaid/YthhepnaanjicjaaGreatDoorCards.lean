/-
  DERIVED. GIVEN WITH THE SEED: THE CARDS: each row of YthhepnaanjicjaaGreatDoorRows.lean that lists a variable, with what it lists TIED to the program's text (the seventh form; the later family's looks); each row that meets fmt, with fmt's text TOLD by the authors' own Lean function (tested against real Go, not proved from fmt's source: count such statements apart). THE CARD IS WHAT COUNTS. Prove the row's statement (the work); the ties are given (YthhepnaanjicjaaGreatDoorTie.lean); close each card by the builder's one call (the guide's Derived/Test/ToyasCard.lean, 'card_holds'). Laid BY PROGRAM, IN A SANDBOX (cutbox-door.mjs). By AI agents, Wed Nov 11 2026. No macro, syntax, notation, axiom, sorry.
-/
import Derived.Test.YthhepnaanjicjaaGreatDoorRows
import GoSem.ClaimSeven
namespace Go.Proofs.YthhepnaanjicjaaGreatDoor
namespace Rows

/-- THE TIED CARD OF 'regencylaw07.OwnsFlows'. -/
def ownsFlowsCard : Claim7 := { stood := { row := ownsFlowsRow, standIns := [], harness := (true, "fd594034ef6ac330493a0e3f50887663515fa0ef89308825e5a45e0f653eee68"), looks := true }, kinds := [], alts := [], laidByText := true, laidKinds := [.data, .data, .data, .data, .sentinel, .sentinel, .pinned], laidTests := true, laidLooks := .later }
def OwnsFlowsCardSaid : Prop := Claim7.holds Tryz.pinned (.plain (OpenSpec.ofChange ownsFlowsSpec)) ownsFlowsCard

/-- THE TIED CARD OF 'regencylaw07.OwnsSets'. -/
def ownsSetsCard : Claim7 := { stood := { row := ownsSetsRow, standIns := [], harness := (true, "fd594034ef6ac330493a0e3f50887663515fa0ef89308825e5a45e0f653eee68"), looks := true }, kinds := [], alts := [], laidByText := true, laidKinds := [.data, .data, .data, .data, .sentinel, .sentinel, .pinned], laidTests := true, laidLooks := .later }
def OwnsSetsCardSaid : Prop := Claim7.holds Tryz.pinned (.plain (OpenSpec.ofChange ownsSetsSpec)) ownsSetsCard

/-- THE TIED CARD OF 'regencylaw07.OwnsTells'. -/
def ownsTellsCard : Claim7 := { stood := { row := ownsTellsRow, standIns := [], harness := (true, "fd594034ef6ac330493a0e3f50887663515fa0ef89308825e5a45e0f653eee68"), looks := true }, kinds := [], alts := [], laidByText := true, laidKinds := [.data, .data, .data, .data, .sentinel, .sentinel, .pinned], laidTests := true, laidLooks := .later }
def OwnsTellsCardSaid : Prop := Claim7.holds Tryz.pinned (.plain (OpenSpec.ofChange ownsTellsSpec)) ownsTellsCard

/-- THE TIED CARD OF 'regencylaw07.OwnsMore'. -/
def ownsMoreCard : Claim7 := { stood := { row := ownsMoreRow, standIns := [], harness := (true, "fd594034ef6ac330493a0e3f50887663515fa0ef89308825e5a45e0f653eee68"), looks := true }, kinds := [], alts := [], laidByText := true, laidKinds := [.data, .data, .data, .data, .sentinel, .sentinel, .pinned], laidTests := true, laidLooks := .later }
def OwnsMoreCardSaid : Prop := Claim7.holds Tryz.pinned (.plain (OpenSpec.ofChange ownsMoreSpec)) ownsMoreCard

/-- THE TIED CARD OF 'regencylaw06.LabelFlows'. -/
def labelFlowsCard : Claim7 := { stood := { row := labelFlowsRow, standIns := [], harness := (true, "fd594034ef6ac330493a0e3f50887663515fa0ef89308825e5a45e0f653eee68"), looks := true }, kinds := [], alts := [], laidByText := true, laidKinds := [.data, .data, .data, .data, .sentinel, .sentinel, .pinned], laidTests := true, laidLooks := .later }
def LabelFlowsCardSaid : Prop := Claim7.holds Tryz.pinned (.plain (OpenSpec.ofChange labelFlowsSpec)) labelFlowsCard

/-- THE TIED CARD OF 'regencylaw06.LabelSets'. -/
def labelSetsCard : Claim7 := { stood := { row := labelSetsRow, standIns := [], harness := (true, "fd594034ef6ac330493a0e3f50887663515fa0ef89308825e5a45e0f653eee68"), looks := true }, kinds := [], alts := [], laidByText := true, laidKinds := [.data, .data, .data, .data, .sentinel, .sentinel, .pinned], laidTests := true, laidLooks := .later }
def LabelSetsCardSaid : Prop := Claim7.holds Tryz.pinned (.plain (OpenSpec.ofChange labelSetsSpec)) labelSetsCard

/-- THE TIED CARD OF 'regencylaw06.LabelTells'. -/
def labelTellsCard : Claim7 := { stood := { row := labelTellsRow, standIns := [], harness := (true, "fd594034ef6ac330493a0e3f50887663515fa0ef89308825e5a45e0f653eee68"), looks := true }, kinds := [], alts := [], laidByText := true, laidKinds := [.data, .data, .data, .data, .sentinel, .sentinel, .pinned], laidTests := true, laidLooks := .later }
def LabelTellsCardSaid : Prop := Claim7.holds Tryz.pinned (.plain (OpenSpec.ofChange labelTellsSpec)) labelTellsCard

/-- THE TIED CARD OF 'regencylaw06.LabelOrder'. -/
def labelOrderCard : Claim7 := { stood := { row := labelOrderRow, standIns := [], harness := (true, "fd594034ef6ac330493a0e3f50887663515fa0ef89308825e5a45e0f653eee68"), looks := true }, kinds := [], alts := [], laidByText := true, laidKinds := [.data, .data, .data, .data, .sentinel, .sentinel, .pinned], laidTests := true, laidLooks := .later }
def LabelOrderCardSaid : Prop := Claim7.holds Tryz.pinned (.plain (OpenSpec.ofChange labelOrderSpec)) labelOrderCard

/-- THE SECOND FORM's CARD OF 'regencylaw07.OwnsFlows'. -/
def ownsFlowsUptoCard : Claim7 := { stood := { row := ownsFlowsUptoRow, standIns := [], harness := (true, "fd594034ef6ac330493a0e3f50887663515fa0ef89308825e5a45e0f653eee68"), looks := true }, kinds := [], alts := [], laidByText := true, laidKinds := [.data, .data, .data, .data, .sentinel, .sentinel, .pinned], laidTests := true, laidLooks := .later }
def OwnsFlowsUptoCardSaid : Prop := Claim7.holds Tryz.pinned (.plain (OpenSpec.upto ownsFlowsSpec)) ownsFlowsUptoCard

/-- THE SECOND FORM's CARD OF 'regencylaw07.OwnsSets'. -/
def ownsSetsUptoCard : Claim7 := { stood := { row := ownsSetsUptoRow, standIns := [], harness := (true, "fd594034ef6ac330493a0e3f50887663515fa0ef89308825e5a45e0f653eee68"), looks := true }, kinds := [], alts := [], laidByText := true, laidKinds := [.data, .data, .data, .data, .sentinel, .sentinel, .pinned], laidTests := true, laidLooks := .later }
def OwnsSetsUptoCardSaid : Prop := Claim7.holds Tryz.pinned (.plain (OpenSpec.upto ownsSetsSpec)) ownsSetsUptoCard

/-- THE SECOND FORM's CARD OF 'regencylaw07.OwnsTells'. -/
def ownsTellsUptoCard : Claim7 := { stood := { row := ownsTellsUptoRow, standIns := [], harness := (true, "fd594034ef6ac330493a0e3f50887663515fa0ef89308825e5a45e0f653eee68"), looks := true }, kinds := [], alts := [], laidByText := true, laidKinds := [.data, .data, .data, .data, .sentinel, .sentinel, .pinned], laidTests := true, laidLooks := .later }
def OwnsTellsUptoCardSaid : Prop := Claim7.holds Tryz.pinned (.plain (OpenSpec.upto ownsTellsSpec)) ownsTellsUptoCard

/-- THE SECOND FORM's CARD OF 'regencylaw07.OwnsMore'. -/
def ownsMoreUptoCard : Claim7 := { stood := { row := ownsMoreUptoRow, standIns := [], harness := (true, "fd594034ef6ac330493a0e3f50887663515fa0ef89308825e5a45e0f653eee68"), looks := true }, kinds := [], alts := [], laidByText := true, laidKinds := [.data, .data, .data, .data, .sentinel, .sentinel, .pinned], laidTests := true, laidLooks := .later }
def OwnsMoreUptoCardSaid : Prop := Claim7.holds Tryz.pinned (.plain (OpenSpec.upto ownsMoreSpec)) ownsMoreUptoCard

/-- THE SECOND FORM's CARD OF 'regencylaw06.LabelFlows'. -/
def labelFlowsUptoCard : Claim7 := { stood := { row := labelFlowsUptoRow, standIns := [], harness := (true, "fd594034ef6ac330493a0e3f50887663515fa0ef89308825e5a45e0f653eee68"), looks := true }, kinds := [], alts := [], laidByText := true, laidKinds := [.data, .data, .data, .data, .sentinel, .sentinel, .pinned], laidTests := true, laidLooks := .later }
def LabelFlowsUptoCardSaid : Prop := Claim7.holds Tryz.pinned (.plain (OpenSpec.upto labelFlowsSpec)) labelFlowsUptoCard

/-- THE SECOND FORM's CARD OF 'regencylaw06.LabelSets'. -/
def labelSetsUptoCard : Claim7 := { stood := { row := labelSetsUptoRow, standIns := [], harness := (true, "fd594034ef6ac330493a0e3f50887663515fa0ef89308825e5a45e0f653eee68"), looks := true }, kinds := [], alts := [], laidByText := true, laidKinds := [.data, .data, .data, .data, .sentinel, .sentinel, .pinned], laidTests := true, laidLooks := .later }
def LabelSetsUptoCardSaid : Prop := Claim7.holds Tryz.pinned (.plain (OpenSpec.upto labelSetsSpec)) labelSetsUptoCard

/-- THE SECOND FORM's CARD OF 'regencylaw06.LabelTells'. -/
def labelTellsUptoCard : Claim7 := { stood := { row := labelTellsUptoRow, standIns := [], harness := (true, "fd594034ef6ac330493a0e3f50887663515fa0ef89308825e5a45e0f653eee68"), looks := true }, kinds := [], alts := [], laidByText := true, laidKinds := [.data, .data, .data, .data, .sentinel, .sentinel, .pinned], laidTests := true, laidLooks := .later }
def LabelTellsUptoCardSaid : Prop := Claim7.holds Tryz.pinned (.plain (OpenSpec.upto labelTellsSpec)) labelTellsUptoCard

/-- THE SECOND FORM's CARD OF 'regencylaw06.LabelOrder'. -/
def labelOrderUptoCard : Claim7 := { stood := { row := labelOrderUptoRow, standIns := [], harness := (true, "fd594034ef6ac330493a0e3f50887663515fa0ef89308825e5a45e0f653eee68"), looks := true }, kinds := [], alts := [], laidByText := true, laidKinds := [.data, .data, .data, .data, .sentinel, .sentinel, .pinned], laidTests := true, laidLooks := .later }
def LabelOrderUptoCardSaid : Prop := Claim7.holds Tryz.pinned (.plain (OpenSpec.upto labelOrderSpec)) labelOrderUptoCard
end Rows
end Go.Proofs.YthhepnaanjicjaaGreatDoor
