/-
  DERIVED. GIVEN WITH THE SEED: THE CARDS: each row of YtmokofcdgafhoaaGreatDoorRows.lean that lists a variable, with what it lists TIED to the program's text (the seventh form; the later family's looks); each row that meets fmt, with fmt's text TOLD by the authors' own Lean function (tested against real Go, not proved from fmt's source: count such statements apart). THE CARD IS WHAT COUNTS. Prove the row's statement (the work); the ties are given (YtmokofcdgafhoaaGreatDoorTie.lean); close each card by the builder's one call (the guide's Derived/Test/ToyasCard.lean, 'card_holds'). Laid BY PROGRAM, IN A SANDBOX (cutbox-door.mjs). By AI agents, Wed Nov 11 2026. No macro, syntax, notation, axiom, sorry.
-/
import Derived.Test.YtmokofcdgafhoaaGreatDoorRows
import GoSem.ClaimSeven
namespace Go.Proofs.YtmokofcdgafhoaaGreatDoor
namespace Rows

/-- THE TIED CARD OF 'bothylaw27.HubNone'. -/
def hubNoneCard : Claim7 := { stood := { row := hubNoneRow, standIns := [], harness := (true, "1c7cd6dcebdfff69c67998dfc8773166d6fce56d308d2ab51cf22c7ed4635dc4"), looks := false }, kinds := [], alts := [], laidByText := true, laidKinds := [.data, .pinned], laidTests := true, laidLooks := .later }
def HubNoneCardSaid : Prop := Claim7.holds Tryz.pinned (.plain (OpenSpec.ofChange hubNoneSpec)) hubNoneCard

/-- THE SECOND FORM's CARD OF 'bothylaw27.HubNone'. -/
def hubNoneUptoCard : Claim7 := { stood := { row := hubNoneUptoRow, standIns := [], harness := (true, "1c7cd6dcebdfff69c67998dfc8773166d6fce56d308d2ab51cf22c7ed4635dc4"), looks := false }, kinds := [], alts := [], laidByText := true, laidKinds := [.data, .pinned], laidTests := true, laidLooks := .later }
def HubNoneUptoCardSaid : Prop := Claim7.holds Tryz.pinned (.plain (OpenSpec.upto hubNoneSpec)) hubNoneUptoCard
end Rows
end Go.Proofs.YtmokofcdgafhoaaGreatDoor
