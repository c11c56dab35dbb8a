/-
  DERIVED. GIVEN WITH THE SEED: THE CARDS: each row of YtcifpfdlkpddeaaGreatDoorRows.lean that lists a variable, with what it lists TIED to the program's text (the seventh form; the later family's looks); each row that meets fmt, with fmt's text TOLD by the authors' own Lean function (tested against real Go, not proved from fmt's source: count such statements apart). THE CARD IS WHAT COUNTS. Prove the row's statement (the work); the ties are given (YtcifpfdlkpddeaaGreatDoorTie.lean); close each card by the builder's one call (the guide's Derived/Test/ToyasCard.lean, 'card_holds'). Laid BY PROGRAM, IN A SANDBOX (cutbox-door.mjs). By AI agents, Wed Nov 11 2026. No macro, syntax, notation, axiom, sorry.
-/
import Derived.Test.YtcifpfdlkpddeaaGreatDoorRows
import GoSem.ClaimSeven
namespace Go.Proofs.YtcifpfdlkpddeaaGreatDoor
namespace Rows

/-- THE TIED CARD OF 'laws.FnQuietBoxes'. -/
def fnQuietBoxesCard : Claim7 := { stood := { row := fnQuietBoxesRow, standIns := [], harness := (true, "82fdf91e5bce6985025e398d1e475218fadf1db5bd1a32a2cbc81a02d6cb5143"), looks := true }, kinds := [], alts := [], laidByText := true, laidKinds := [.data, .data, .data, .data, .sentinel, .sentinel, .pinned], laidTests := true, laidLooks := .later }
def FnQuietBoxesCardSaid : Prop := Claim7.holds Tryz.pinned (.plain (OpenSpec.ofChange fnQuietBoxesSpec)) fnQuietBoxesCard

/-- THE SECOND FORM's CARD OF 'laws.FnQuietBoxes'. -/
def fnQuietBoxesUptoCard : Claim7 := { stood := { row := fnQuietBoxesUptoRow, standIns := [], harness := (true, "82fdf91e5bce6985025e398d1e475218fadf1db5bd1a32a2cbc81a02d6cb5143"), looks := true }, kinds := [], alts := [], laidByText := true, laidKinds := [.data, .data, .data, .data, .sentinel, .sentinel, .pinned], laidTests := true, laidLooks := .later }
def FnQuietBoxesUptoCardSaid : Prop := Claim7.holds Tryz.pinned (.plain (OpenSpec.upto fnQuietBoxesSpec)) fnQuietBoxesUptoCard
end Rows
end Go.Proofs.YtcifpfdlkpddeaaGreatDoor
