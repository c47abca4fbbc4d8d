/-
  DERIVED. GIVEN WITH THE SEED: THE CARDS: each row of YtffkmfgmdepfcaaGreatDoorRows.lean that lists a variable, with what it lists TIED to the program's text (the seventh form; the later family's looks); each row that meets fmt, with fmt's text TOLD by the authors' own Lean function (tested against real Go, not proved from fmt's source: count such statements apart). THE CARD IS WHAT COUNTS. Prove the row's statement (the work); the ties are given (YtffkmfgmdepfcaaGreatDoorTie.lean); close each card by the builder's one call (the guide's Derived/Test/ToyasCard.lean, 'card_holds'). Laid BY PROGRAM, IN A SANDBOX (cutbox-door.mjs). By AI agents, Wed Nov 11 2026. No macro, syntax, notation, axiom, sorry.
-/
import Derived.Test.YtffkmfgmdepfcaaGreatDoorRows
import GoSem.ClaimSeven
namespace Go.Proofs.YtffkmfgmdepfcaaGreatDoor
namespace Rows

/-- THE TIED CARD OF 'gazettelaw18.OverlayNew'. -/
def overlayNewCard : Claim7 := { stood := { row := overlayNewRow, standIns := [], harness := (true, "5e0acac8b64d050353fbe5363487e0fc228cb0eace7b6b10e7a370783f6c0056"), looks := false }, kinds := [], alts := [], laidByText := true, laidKinds := [.data, .data, .data, .data, .data, .data, .pinned, .pinned, .pinned, .pinned, .pinned, .pinned, .pinned, .pinned], laidTests := true, laidLooks := .later }
def OverlayNewCardSaid : Prop := Claim7.holds Tryz.pinned (.plain (OpenSpec.ofChange overlayNewSpec)) overlayNewCard

/-- THE SECOND FORM's CARD OF 'gazettelaw18.OverlayNew'. -/
def overlayNewUptoCard : Claim7 := { stood := { row := overlayNewUptoRow, standIns := [], harness := (true, "5e0acac8b64d050353fbe5363487e0fc228cb0eace7b6b10e7a370783f6c0056"), looks := false }, kinds := [], alts := [], laidByText := true, laidKinds := [.data, .data, .data, .data, .data, .data, .pinned, .pinned, .pinned, .pinned, .pinned, .pinned, .pinned, .pinned], laidTests := true, laidLooks := .later }
def OverlayNewUptoCardSaid : Prop := Claim7.holds Tryz.pinned (.plain (OpenSpec.upto overlayNewSpec)) overlayNewUptoCard
end Rows
end Go.Proofs.YtffkmfgmdepfcaaGreatDoor
