/-
  DERIVED. GIVEN WITH THE SEED: THE CARDS: each row of YtmjignphadnadaaDoorRows.lean that lists a variable, with what it lists TIED to the program's text (the seventh form; the later family's looks); each row that meets fmt, with fmt's text TOLD by the authors' own Lean function (tested against real Go, not proved from fmt's source: count such statements apart). THE CARD IS WHAT COUNTS. Prove the row's statement (the work); the ties are given (YtmjignphadnadaaDoorTie.lean); close each card by the builder's one call (the guide's Derived/Test/ToyasCard.lean, 'card_holds'). Laid BY PROGRAM, IN A SANDBOX (cutbox-door.mjs). By AI agents, Wed Nov 11 2026. No macro, syntax, notation, axiom, sorry.
-/
import Derived.Test.YtmjignphadnadaaDoorRows
import GoSem.ClaimSeven
namespace Go.Proofs.YtmjignphadnadaaDoor
namespace Rows

/-- THE TIED CARD OF 'brindlewoodlaw8.OpcodeEncodeMatchesSpec'. -/
def opcodeEncodeMatchesSpecCard : Claim7 := { stood := { row := opcodeEncodeMatchesSpecRow, standIns := [], harness := (true, "9a1db2e3309c095c266985309495d026c29a5ded305dbc2a815fa0e1ae46ab0d"), looks := false }, kinds := [], alts := [], laidByText := true, laidKinds := [.listed, .data], laidTests := true, laidLooks := .later }
def OpcodeEncodeMatchesSpecCardSaid : Prop := Claim7.holds Tryd.pinned (.plain (OpenSpec.ofChange opcodeEncodeMatchesSpecSpec)) opcodeEncodeMatchesSpecCard

/-- THE SECOND FORM's CARD OF 'brindlewoodlaw8.OpcodeEncodeMatchesSpec'. -/
def opcodeEncodeMatchesSpecUptoCard : Claim7 := { stood := { row := opcodeEncodeMatchesSpecUptoRow, standIns := [], harness := (true, "9a1db2e3309c095c266985309495d026c29a5ded305dbc2a815fa0e1ae46ab0d"), looks := false }, kinds := [], alts := [], laidByText := true, laidKinds := [.listed, .data], laidTests := true, laidLooks := .later }
def OpcodeEncodeMatchesSpecUptoCardSaid : Prop := Claim7.holds Tryd.pinned (.plain (OpenSpec.upto opcodeEncodeMatchesSpecSpec)) opcodeEncodeMatchesSpecUptoCard
end Rows
end Go.Proofs.YtmjignphadnadaaDoor
