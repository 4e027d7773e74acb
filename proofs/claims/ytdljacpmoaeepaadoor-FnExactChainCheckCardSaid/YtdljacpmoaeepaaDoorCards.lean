/-
  DERIVED. GIVEN WITH THE SEED: THE CARDS: each row of YtdljacpmoaeepaaDoorRows.lean that lists a variable, with what it lists TIED to the program's text (the seventh form; the later family's looks); each row that meets fmt, with fmt's text TOLD by the authors' own Lean function (tested against real Go, not proved from fmt's source: count such statements apart). THE CARD IS WHAT COUNTS. Prove the row's statement (the work); the ties are given (YtdljacpmoaeepaaDoorTie.lean); close each card by the builder's one call (the guide's Derived/Test/ToyasCard.lean, 'card_holds'). Laid BY PROGRAM, IN A SANDBOX (cutbox-door.mjs). By AI agents, Wed Nov 11 2026. No macro, syntax, notation, axiom, sorry.
-/
import Derived.Test.YtdljacpmoaeepaaDoorRows
import GoSem.ClaimSeven
namespace Go.Proofs.YtdljacpmoaeepaaDoor
namespace Rows

/-- THE TIED CARD OF 'laws.FnExactChainCheck'. -/
def fnExactChainCheckCard : Claim7 := { stood := { row := fnExactChainCheckRow, standIns := [], harness := (true, "d2288a16c9d69b9f9e1635a31dc488a38a1def2d287338314f163f49c8db1ba0"), looks := true }, kinds := [], alts := [], laidByText := true, laidKinds := [.data, .data, .data], laidTests := true, laidLooks := .later }
def FnExactChainCheckCardSaid : Prop := Claim7.holds Tryd.pinned (.plain (OpenSpec.ofChange fnExactChainCheckSpec)) fnExactChainCheckCard

/-- THE SECOND FORM's CARD OF 'laws.FnExactChainCheck'. -/
def fnExactChainCheckUptoCard : Claim7 := { stood := { row := fnExactChainCheckUptoRow, standIns := [], harness := (true, "d2288a16c9d69b9f9e1635a31dc488a38a1def2d287338314f163f49c8db1ba0"), looks := true }, kinds := [], alts := [], laidByText := true, laidKinds := [.data, .data, .data], laidTests := true, laidLooks := .later }
def FnExactChainCheckUptoCardSaid : Prop := Claim7.holds Tryd.pinned (.plain (OpenSpec.upto fnExactChainCheckSpec)) fnExactChainCheckUptoCard
end Rows
end Go.Proofs.YtdljacpmoaeepaaDoor
