/-
  DERIVED. GIVEN WITH THE SEED: THE CARDS: each row of YtlhbdhccddadaaaDoorRows.lean that lists a variable, with what it lists TIED to the program's text (the seventh form; the later family's looks); each row that meets fmt, with fmt's text TOLD by the authors' own Lean function (tested against real Go, not proved from fmt's source: count such statements apart). THE CARD IS WHAT COUNTS. Prove the row's statement (the work); the ties are given (YtlhbdhccddadaaaDoorTie.lean); close each card by the builder's one call (the guide's Derived/Test/ToyasCard.lean, 'card_holds'). Laid BY PROGRAM, IN A SANDBOX (cutbox-door.mjs). By AI agents, Wed Nov 11 2026. No macro, syntax, notation, axiom, sorry.
-/
import Derived.Test.YtlhbdhccddadaaaDoorRows
import GoSem.ClaimSeven
namespace Go.Proofs.YtlhbdhccddadaaaDoor
namespace Rows

/-- THE TIED CARD OF 'laws.FnExactLinkMake'. -/
def fnExactLinkMakeCard : Claim7 := { stood := { row := fnExactLinkMakeRow, standIns := [], harness := (true, "58fdf5fe9576a5dc98ccfcab89b5b8de5c64580e260318ba74e321aa47d742e8"), looks := true }, kinds := [], alts := [], laidByText := true, laidKinds := [.data, .data, .data], laidTests := true, laidLooks := .later }
def FnExactLinkMakeCardSaid : Prop := Claim7.holds Tryd.pinned (.plain (OpenSpec.ofChange fnExactLinkMakeSpec)) fnExactLinkMakeCard

/-- THE TIED CARD OF 'laws.FnExactChainCheck'. -/
def fnExactChainCheckCard : Claim7 := { stood := { row := fnExactChainCheckRow, standIns := [], harness := (true, "58fdf5fe9576a5dc98ccfcab89b5b8de5c64580e260318ba74e321aa47d742e8"), looks := true }, kinds := [], alts := [], laidByText := true, laidKinds := [.data, .data, .data], laidTests := true, laidLooks := .later }
def FnExactChainCheckCardSaid : Prop := Claim7.holds Tryd.pinned (.plain (OpenSpec.ofChange fnExactChainCheckSpec)) fnExactChainCheckCard

/-- THE TIED CARD OF 'laws.FnExactLightAccept'. -/
def fnExactLightAcceptCard : Claim7 := { stood := { row := fnExactLightAcceptRow, standIns := [], harness := (true, "58fdf5fe9576a5dc98ccfcab89b5b8de5c64580e260318ba74e321aa47d742e8"), looks := true }, kinds := [], alts := [], laidByText := true, laidKinds := [.data, .data, .data], laidTests := true, laidLooks := .later }
def FnExactLightAcceptCardSaid : Prop := Claim7.holds Tryd.pinned (.plain (OpenSpec.ofChange fnExactLightAcceptSpec)) fnExactLightAcceptCard

/-- THE SECOND FORM's CARD OF 'laws.FnExactLinkMake'. -/
def fnExactLinkMakeUptoCard : Claim7 := { stood := { row := fnExactLinkMakeUptoRow, standIns := [], harness := (true, "58fdf5fe9576a5dc98ccfcab89b5b8de5c64580e260318ba74e321aa47d742e8"), looks := true }, kinds := [], alts := [], laidByText := true, laidKinds := [.data, .data, .data], laidTests := true, laidLooks := .later }
def FnExactLinkMakeUptoCardSaid : Prop := Claim7.holds Tryd.pinned (.plain (OpenSpec.upto fnExactLinkMakeSpec)) fnExactLinkMakeUptoCard

/-- THE SECOND FORM's CARD OF 'laws.FnExactChainCheck'. -/
def fnExactChainCheckUptoCard : Claim7 := { stood := { row := fnExactChainCheckUptoRow, standIns := [], harness := (true, "58fdf5fe9576a5dc98ccfcab89b5b8de5c64580e260318ba74e321aa47d742e8"), looks := true }, kinds := [], alts := [], laidByText := true, laidKinds := [.data, .data, .data], laidTests := true, laidLooks := .later }
def FnExactChainCheckUptoCardSaid : Prop := Claim7.holds Tryd.pinned (.plain (OpenSpec.upto fnExactChainCheckSpec)) fnExactChainCheckUptoCard

/-- THE SECOND FORM's CARD OF 'laws.FnExactLightAccept'. -/
def fnExactLightAcceptUptoCard : Claim7 := { stood := { row := fnExactLightAcceptUptoRow, standIns := [], harness := (true, "58fdf5fe9576a5dc98ccfcab89b5b8de5c64580e260318ba74e321aa47d742e8"), looks := true }, kinds := [], alts := [], laidByText := true, laidKinds := [.data, .data, .data], laidTests := true, laidLooks := .later }
def FnExactLightAcceptUptoCardSaid : Prop := Claim7.holds Tryd.pinned (.plain (OpenSpec.upto fnExactLightAcceptSpec)) fnExactLightAcceptUptoCard
end Rows
end Go.Proofs.YtlhbdhccddadaaaDoor
