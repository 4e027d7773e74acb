/-
  DERIVED. GIVEN WITH THE SEED: THE CARDS: each row of YtkabnbjlglippaaDoorRows.lean that lists a variable, with what it lists TIED to the program's text (the seventh form; the later family's looks); each row that meets fmt, with fmt's text TOLD by the authors' own Lean function (tested against real Go, not proved from fmt's source: count such statements apart). THE CARD IS WHAT COUNTS. Prove the row's statement (the work); the ties are given (YtkabnbjlglippaaDoorTie.lean); close each card by the builder's one call (the guide's Derived/Test/ToyasCard.lean, 'card_holds'). Laid BY PROGRAM, IN A SANDBOX (cutbox-door.mjs). By AI agents, Wed Nov 11 2026. No macro, syntax, notation, axiom, sorry.
-/
import Derived.Test.YtkabnbjlglippaaDoorRows
import GoSem.ClaimSeven
namespace Go.Proofs.YtkabnbjlglippaaDoor
namespace Rows

/-- THE TIED CARD OF 'laws.FnExactOrderWave'. -/
def fnExactOrderWaveCard : Claim7 := { stood := { row := fnExactOrderWaveRow, standIns := [], harness := (true, "8e5a74bfa09ac3d3c521b16691adcecebfcfd72f968c254e202d2b7eb4ed407b"), looks := true }, kinds := [], alts := [], laidByText := true, laidKinds := [.sentinel, .sentinel, .sentinel], laidTests := true, laidLooks := .later }
def FnExactOrderWaveCardSaid : Prop := Claim7.holds Tryd.pinned (.plain (OpenSpec.ofChange fnExactOrderWaveSpec)) fnExactOrderWaveCard

/-- THE SECOND FORM's CARD OF 'laws.FnExactOrderWave'. -/
def fnExactOrderWaveUptoCard : Claim7 := { stood := { row := fnExactOrderWaveUptoRow, standIns := [], harness := (true, "8e5a74bfa09ac3d3c521b16691adcecebfcfd72f968c254e202d2b7eb4ed407b"), looks := true }, kinds := [], alts := [], laidByText := true, laidKinds := [.sentinel, .sentinel, .sentinel], laidTests := true, laidLooks := .later }
def FnExactOrderWaveUptoCardSaid : Prop := Claim7.holds Tryd.pinned (.plain (OpenSpec.upto fnExactOrderWaveSpec)) fnExactOrderWaveUptoCard
end Rows
end Go.Proofs.YtkabnbjlglippaaDoor
