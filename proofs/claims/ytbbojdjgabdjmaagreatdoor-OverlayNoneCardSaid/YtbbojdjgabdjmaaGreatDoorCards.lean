/-
  DERIVED. GIVEN WITH THE SEED: THE CARDS: each row of YtbbojdjgabdjmaaGreatDoorRows.lean that lists a variable, with what it lists TIED to the program's text (the seventh form; the later family's looks); each row that meets fmt, with fmt's text TOLD by the authors' own Lean function (tested against real Go, not proved from fmt's source: count such statements apart). THE CARD IS WHAT COUNTS. Prove the row's statement (the work); the ties are given (YtbbojdjgabdjmaaGreatDoorTie.lean); close each card by the builder's one call (the guide's Derived/Test/ToyasCard.lean, 'card_holds'). Laid BY PROGRAM, IN A SANDBOX (cutbox-door.mjs). By AI agents, Wed Nov 11 2026. No macro, syntax, notation, axiom, sorry.
-/
import Derived.Test.YtbbojdjgabdjmaaGreatDoorRows
import GoSem.ClaimSeven
namespace Go.Proofs.YtbbojdjgabdjmaaGreatDoor
namespace Rows

/-- THE TIED CARD OF 'tussocklaw21.OverlayNone'. -/
def overlayNoneCard : Claim7 := { stood := { row := overlayNoneRow, standIns := [], harness := (true, "0698e5cb9869bf2a831c992df0c7d6cc7296d8bf5335b64bd89bbf23d8aaa866"), looks := false }, kinds := [], alts := [], laidByText := true, laidKinds := [.data, .data, .pinned], laidTests := true, laidLooks := .later }
def OverlayNoneCardSaid : Prop := Claim7.holds Tryz.pinned (.plain (OpenSpec.ofChange overlayNoneSpec)) overlayNoneCard

/-- THE SECOND FORM's CARD OF 'tussocklaw21.OverlayNone'. -/
def overlayNoneUptoCard : Claim7 := { stood := { row := overlayNoneUptoRow, standIns := [], harness := (true, "0698e5cb9869bf2a831c992df0c7d6cc7296d8bf5335b64bd89bbf23d8aaa866"), looks := false }, kinds := [], alts := [], laidByText := true, laidKinds := [.data, .data, .pinned], laidTests := true, laidLooks := .later }
def OverlayNoneUptoCardSaid : Prop := Claim7.holds Tryz.pinned (.plain (OpenSpec.upto overlayNoneSpec)) overlayNoneUptoCard
end Rows
end Go.Proofs.YtbbojdjgabdjmaaGreatDoor
