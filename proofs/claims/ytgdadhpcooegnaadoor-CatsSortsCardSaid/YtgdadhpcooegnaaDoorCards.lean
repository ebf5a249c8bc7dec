/-
  DERIVED. GIVEN WITH THE SEED: THE CARDS: each row of YtgdadhpcooegnaaDoorRows.lean that lists a variable, with what it lists TIED to the program's text (the seventh form; the later family's looks); each row that meets fmt, with fmt's text TOLD by the authors' own Lean function (tested against real Go, not proved from fmt's source: count such statements apart). THE CARD IS WHAT COUNTS. Prove the row's statement (the work); the ties are given (YtgdadhpcooegnaaDoorTie.lean); close each card by the builder's one call (the guide's Derived/Test/ToyasCard.lean, 'card_holds'). Laid BY PROGRAM, IN A SANDBOX (cutbox-door.mjs). By AI agents, Wed Nov 11 2026. No macro, syntax, notation, axiom, sorry.
-/
import Derived.Test.YtgdadhpcooegnaaDoorRows
import GoSem.ClaimSeven
namespace Go.Proofs.YtgdadhpcooegnaaDoor
namespace Rows

/-- THE TIED CARD OF 'regencylaw05.CatsNames'. -/
def catsNamesCard : Claim7 := { stood := { row := catsNamesRow, standIns := [], harness := (true, "00ddf5f553b4f1332b4ef8f9f2b9779977cb9a5ceffc346da843bacc9d229240"), looks := true }, kinds := [], alts := [], laidByText := true, laidKinds := [.data, .data, .data, .data, .sentinel, .sentinel, .pinned], laidTests := true, laidLooks := .later }
def CatsNamesCardSaid : Prop := Claim7.holds Tryd.pinned (.plain (OpenSpec.ofChange catsNamesSpec)) catsNamesCard

/-- THE TIED CARD OF 'regencylaw05.CatsOrders'. -/
def catsOrdersCard : Claim7 := { stood := { row := catsOrdersRow, standIns := [], harness := (true, "00ddf5f553b4f1332b4ef8f9f2b9779977cb9a5ceffc346da843bacc9d229240"), looks := true }, kinds := [], alts := [], laidByText := true, laidKinds := [.data, .data, .data, .data, .sentinel, .sentinel, .pinned], laidTests := true, laidLooks := .later }
def CatsOrdersCardSaid : Prop := Claim7.holds Tryd.pinned (.plain (OpenSpec.ofChange catsOrdersSpec)) catsOrdersCard

/-- THE TIED CARD OF 'regencylaw05.CatsHold'. -/
def catsHoldCard : Claim7 := { stood := { row := catsHoldRow, standIns := [], harness := (true, "00ddf5f553b4f1332b4ef8f9f2b9779977cb9a5ceffc346da843bacc9d229240"), looks := true }, kinds := [], alts := [], laidByText := true, laidKinds := [.data, .data, .data, .data, .sentinel, .sentinel, .pinned], laidTests := true, laidLooks := .later }
def CatsHoldCardSaid : Prop := Claim7.holds Tryd.pinned (.plain (OpenSpec.ofChange catsHoldSpec)) catsHoldCard

/-- THE TIED CARD OF 'regencylaw05.CatsSorts'. -/
def catsSortsCard : Claim7 := { stood := { row := catsSortsRow, standIns := [], harness := (true, "00ddf5f553b4f1332b4ef8f9f2b9779977cb9a5ceffc346da843bacc9d229240"), looks := true }, kinds := [], alts := [], laidByText := true, laidKinds := [.data, .data, .data, .data, .sentinel, .sentinel, .pinned], laidTests := true, laidLooks := .later }
def CatsSortsCardSaid : Prop := Claim7.holds Tryd.pinned (.plain (OpenSpec.ofChange catsSortsSpec)) catsSortsCard

/-- THE SECOND FORM's CARD OF 'regencylaw05.CatsNames'. -/
def catsNamesUptoCard : Claim7 := { stood := { row := catsNamesUptoRow, standIns := [], harness := (true, "00ddf5f553b4f1332b4ef8f9f2b9779977cb9a5ceffc346da843bacc9d229240"), looks := true }, kinds := [], alts := [], laidByText := true, laidKinds := [.data, .data, .data, .data, .sentinel, .sentinel, .pinned], laidTests := true, laidLooks := .later }
def CatsNamesUptoCardSaid : Prop := Claim7.holds Tryd.pinned (.plain (OpenSpec.upto catsNamesSpec)) catsNamesUptoCard

/-- THE SECOND FORM's CARD OF 'regencylaw05.CatsOrders'. -/
def catsOrdersUptoCard : Claim7 := { stood := { row := catsOrdersUptoRow, standIns := [], harness := (true, "00ddf5f553b4f1332b4ef8f9f2b9779977cb9a5ceffc346da843bacc9d229240"), looks := true }, kinds := [], alts := [], laidByText := true, laidKinds := [.data, .data, .data, .data, .sentinel, .sentinel, .pinned], laidTests := true, laidLooks := .later }
def CatsOrdersUptoCardSaid : Prop := Claim7.holds Tryd.pinned (.plain (OpenSpec.upto catsOrdersSpec)) catsOrdersUptoCard

/-- THE SECOND FORM's CARD OF 'regencylaw05.CatsHold'. -/
def catsHoldUptoCard : Claim7 := { stood := { row := catsHoldUptoRow, standIns := [], harness := (true, "00ddf5f553b4f1332b4ef8f9f2b9779977cb9a5ceffc346da843bacc9d229240"), looks := true }, kinds := [], alts := [], laidByText := true, laidKinds := [.data, .data, .data, .data, .sentinel, .sentinel, .pinned], laidTests := true, laidLooks := .later }
def CatsHoldUptoCardSaid : Prop := Claim7.holds Tryd.pinned (.plain (OpenSpec.upto catsHoldSpec)) catsHoldUptoCard

/-- THE SECOND FORM's CARD OF 'regencylaw05.CatsSorts'. -/
def catsSortsUptoCard : Claim7 := { stood := { row := catsSortsUptoRow, standIns := [], harness := (true, "00ddf5f553b4f1332b4ef8f9f2b9779977cb9a5ceffc346da843bacc9d229240"), looks := true }, kinds := [], alts := [], laidByText := true, laidKinds := [.data, .data, .data, .data, .sentinel, .sentinel, .pinned], laidTests := true, laidLooks := .later }
def CatsSortsUptoCardSaid : Prop := Claim7.holds Tryd.pinned (.plain (OpenSpec.upto catsSortsSpec)) catsSortsUptoCard
end Rows
end Go.Proofs.YtgdadhpcooegnaaDoor
