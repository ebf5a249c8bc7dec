/-
  DERIVED. GIVEN WITH THE SEED: THE CARDS: each row of YtefedalnafjcfaaGreatDoorRows.lean that lists a variable, with what it lists TIED to the program's text (the seventh form; the later family's looks); each row that meets fmt, with fmt's text TOLD by the authors' own Lean function (tested against real Go, not proved from fmt's source: count such statements apart). THE CARD IS WHAT COUNTS. Prove the row's statement (the work); the ties are given (YtefedalnafjcfaaGreatDoorTie.lean); close each card by the builder's one call (the guide's Derived/Test/ToyasCard.lean, 'card_holds'). Laid BY PROGRAM, IN A SANDBOX (cutbox-door.mjs). By AI agents, Wed Nov 11 2026. No macro, syntax, notation, axiom, sorry.
-/
import Derived.Test.YtefedalnafjcfaaGreatDoorRows
import GoSem.ClaimSeven
namespace Go.Proofs.YtefedalnafjcfaaGreatDoor
namespace Rows

/-- THE TIED CARD OF 'regencylaw10.QuotaHolds'. -/
def quotaHoldsCard : Claim7 := { stood := { row := quotaHoldsRow, standIns := [], harness := (true, "456b6ed940e538711d616d6834f97f7d1b8bd670ad42f0af91d0ae63aec6f8d9"), looks := true }, kinds := [], alts := [], laidByText := true, laidKinds := [.data, .data, .data, .data, .sentinel, .sentinel, .pinned], laidTests := true, laidLooks := .later }
def QuotaHoldsCardSaid : Prop := Claim7.holds Tryz.pinned (.plain (OpenSpec.ofChange quotaHoldsSpec)) quotaHoldsCard

/-- THE TIED CARD OF 'regencylaw10.QuotaSums'. -/
def quotaSumsCard : Claim7 := { stood := { row := quotaSumsRow, standIns := [], harness := (true, "456b6ed940e538711d616d6834f97f7d1b8bd670ad42f0af91d0ae63aec6f8d9"), looks := true }, kinds := [], alts := [], laidByText := true, laidKinds := [.data, .data, .data, .data, .sentinel, .sentinel, .pinned], laidTests := true, laidLooks := .later }
def QuotaSumsCardSaid : Prop := Claim7.holds Tryz.pinned (.plain (OpenSpec.ofChange quotaSumsSpec)) quotaSumsCard

/-- THE SECOND FORM's CARD OF 'regencylaw10.QuotaHolds'. -/
def quotaHoldsUptoCard : Claim7 := { stood := { row := quotaHoldsUptoRow, standIns := [], harness := (true, "456b6ed940e538711d616d6834f97f7d1b8bd670ad42f0af91d0ae63aec6f8d9"), looks := true }, kinds := [], alts := [], laidByText := true, laidKinds := [.data, .data, .data, .data, .sentinel, .sentinel, .pinned], laidTests := true, laidLooks := .later }
def QuotaHoldsUptoCardSaid : Prop := Claim7.holds Tryz.pinned (.plain (OpenSpec.upto quotaHoldsSpec)) quotaHoldsUptoCard

/-- THE SECOND FORM's CARD OF 'regencylaw10.QuotaSums'. -/
def quotaSumsUptoCard : Claim7 := { stood := { row := quotaSumsUptoRow, standIns := [], harness := (true, "456b6ed940e538711d616d6834f97f7d1b8bd670ad42f0af91d0ae63aec6f8d9"), looks := true }, kinds := [], alts := [], laidByText := true, laidKinds := [.data, .data, .data, .data, .sentinel, .sentinel, .pinned], laidTests := true, laidLooks := .later }
def QuotaSumsUptoCardSaid : Prop := Claim7.holds Tryz.pinned (.plain (OpenSpec.upto quotaSumsSpec)) quotaSumsUptoCard
end Rows
end Go.Proofs.YtefedalnafjcfaaGreatDoor
