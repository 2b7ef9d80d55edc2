/-
  DERIVED. GIVEN WITH THE SEED: THE CARDS: each row of YteialbmhjmncmaaGreatDoorRows.lean that lists a variable, with what it lists TIED to the program's text (the seventh form; the later family's looks); each row that meets fmt, with fmt's text TOLD by the authors' own Lean function (tested against real Go, not proved from fmt's source: count such statements apart). THE CARD IS WHAT COUNTS. Prove the row's statement (the work); the ties are given (YteialbmhjmncmaaGreatDoorTie.lean); close each card by the builder's one call (the guide's Derived/Test/ToyasCard.lean, 'card_holds'). Laid BY PROGRAM, IN A SANDBOX (cutbox-door.mjs). By AI agents, Wed Nov 11 2026. No macro, syntax, notation, axiom, sorry.
-/
import Derived.Test.YteialbmhjmncmaaGreatDoorRows
import GoSem.ClaimSeven
namespace Go.Proofs.YteialbmhjmncmaaGreatDoor
namespace Rows

/-- THE TIED CARD OF 'bothylaw30.ServerNew'. -/
def serverNewCard : Claim7 := { stood := { row := serverNewRow, standIns := [], harness := (true, "9a177f747ee95750b3d6c53e5221ca5e6449f178772933475edb2910ec5a5cf6"), looks := false }, kinds := [], alts := [], laidByText := true, laidKinds := [.data, .pinned], laidTests := true, laidLooks := .later }
def ServerNewCardSaid : Prop := Claim7.holds Tryz.pinned (.plain (OpenSpec.ofChange serverNewSpec)) serverNewCard

/-- THE SECOND FORM's CARD OF 'bothylaw30.ServerNew'. -/
def serverNewUptoCard : Claim7 := { stood := { row := serverNewUptoRow, standIns := [], harness := (true, "9a177f747ee95750b3d6c53e5221ca5e6449f178772933475edb2910ec5a5cf6"), looks := false }, kinds := [], alts := [], laidByText := true, laidKinds := [.data, .pinned], laidTests := true, laidLooks := .later }
def ServerNewUptoCardSaid : Prop := Claim7.holds Tryz.pinned (.plain (OpenSpec.upto serverNewSpec)) serverNewUptoCard
end Rows
end Go.Proofs.YteialbmhjmncmaaGreatDoor
