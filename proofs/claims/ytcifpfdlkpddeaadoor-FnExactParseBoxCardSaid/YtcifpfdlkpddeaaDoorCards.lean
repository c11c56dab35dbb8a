/-
  DERIVED. GIVEN WITH THE SEED: THE CARDS: each row of YtcifpfdlkpddeaaDoorRows.lean that lists a variable, with what it lists TIED to the program's text (the seventh form; the later family's looks); each row that meets fmt, with fmt's text TOLD by the authors' own Lean function (tested against real Go, not proved from fmt's source: count such statements apart). THE CARD IS WHAT COUNTS. Prove the row's statement (the work); the ties are given (YtcifpfdlkpddeaaDoorTie.lean); close each card by the builder's one call (the guide's Derived/Test/ToyasCard.lean, 'card_holds'). Laid BY PROGRAM, IN A SANDBOX (cutbox-door.mjs). By AI agents, Wed Nov 11 2026. No macro, syntax, notation, axiom, sorry.
-/
import Derived.Test.YtcifpfdlkpddeaaDoorRows
import GoSem.ClaimSeven
namespace Go.Proofs.YtcifpfdlkpddeaaDoor
namespace Rows

/-- THE TIED CARD OF 'laws.FnExactParseBox'. -/
def fnExactParseBoxCard : Claim7 := { stood := { row := fnExactParseBoxRow, standIns := [], harness := (true, "c15507ae588b4f0835a1483c203842459498a21917a3e6e03ee755ece183e030"), looks := true }, kinds := [], alts := [], laidByText := true, laidKinds := [.data, .data, .data, .data, .sentinel, .sentinel, .pinned], laidTests := true, laidLooks := .later }
def FnExactParseBoxCardSaid : Prop := Claim7.holds Tryd.pinned (.plain (OpenSpec.ofChange fnExactParseBoxSpec)) fnExactParseBoxCard

/-- THE SECOND FORM's CARD OF 'laws.FnExactParseBox'. -/
def fnExactParseBoxUptoCard : Claim7 := { stood := { row := fnExactParseBoxUptoRow, standIns := [], harness := (true, "c15507ae588b4f0835a1483c203842459498a21917a3e6e03ee755ece183e030"), looks := true }, kinds := [], alts := [], laidByText := true, laidKinds := [.data, .data, .data, .data, .sentinel, .sentinel, .pinned], laidTests := true, laidLooks := .later }
def FnExactParseBoxUptoCardSaid : Prop := Claim7.holds Tryd.pinned (.plain (OpenSpec.upto fnExactParseBoxSpec)) fnExactParseBoxUptoCard
end Rows
end Go.Proofs.YtcifpfdlkpddeaaDoor
