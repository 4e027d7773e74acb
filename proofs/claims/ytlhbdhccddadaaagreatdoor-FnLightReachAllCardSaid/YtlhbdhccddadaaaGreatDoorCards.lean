/-
  DERIVED. GIVEN WITH THE SEED: THE CARDS: each row of YtlhbdhccddadaaaGreatDoorRows.lean that lists a variable, with what it lists TIED to the program's text (the seventh form; the later family's looks); each row that meets fmt, with fmt's text TOLD by the authors' own Lean function (tested against real Go, not proved from fmt's source: count such statements apart). THE CARD IS WHAT COUNTS. Prove the row's statement (the work); the ties are given (YtlhbdhccddadaaaGreatDoorTie.lean); close each card by the builder's one call (the guide's Derived/Test/ToyasCard.lean, 'card_holds'). Laid BY PROGRAM, IN A SANDBOX (cutbox-door.mjs). By AI agents, Wed Nov 11 2026. No macro, syntax, notation, axiom, sorry.
-/
import Derived.Test.YtlhbdhccddadaaaGreatDoorRows
import GoSem.ClaimSeven
namespace Go.Proofs.YtlhbdhccddadaaaGreatDoor
namespace Rows

/-- THE TIED CARD OF 'laws.FnLightReachAll'. -/
def fnLightReachAllCard : Claim7 := { stood := { row := fnLightReachAllRow, standIns := [], harness := (true, "cfdd842f58022bdfd9f232de954b3c6fd5721e4ce960b5ca4f78455811415de8"), looks := true }, kinds := [], alts := [], laidByText := true, laidKinds := [.data, .data, .data, .handle], laidTests := true, laidLooks := .later }
def FnLightReachAllCardSaid : Prop := Claim7.holds Tryz.pinned (.plain (OpenSpec.ofChange fnLightReachAllSpec)) fnLightReachAllCard

/-- THE TIED CARD OF 'laws.FnLightFalse'. -/
def fnLightFalseCard : Claim7 := { stood := { row := fnLightFalseRow, standIns := [], harness := (true, "cfdd842f58022bdfd9f232de954b3c6fd5721e4ce960b5ca4f78455811415de8"), looks := true }, kinds := [], alts := [], laidByText := true, laidKinds := [.data, .data, .data], laidTests := true, laidLooks := .later }
def FnLightFalseCardSaid : Prop := Claim7.holds Tryz.pinned (.plain (OpenSpec.ofChange fnLightFalseSpec)) fnLightFalseCard

/-- THE TIED CARD OF 'laws.FnLightChain'. -/
def fnLightChainCard : Claim7 := { stood := { row := fnLightChainRow, standIns := [], harness := (true, "cfdd842f58022bdfd9f232de954b3c6fd5721e4ce960b5ca4f78455811415de8"), looks := true }, kinds := [], alts := [], laidByText := true, laidKinds := [.data, .data, .data], laidTests := true, laidLooks := .later }
def FnLightChainCardSaid : Prop := Claim7.holds Tryz.pinned (.plain (OpenSpec.ofChange fnLightChainSpec)) fnLightChainCard

/-- THE TIED CARD OF 'laws.FnExactLightReach'. -/
def fnExactLightReachCard : Claim7 := { stood := { row := fnExactLightReachRow, standIns := [], harness := (true, "cfdd842f58022bdfd9f232de954b3c6fd5721e4ce960b5ca4f78455811415de8"), looks := true }, kinds := [], alts := [], laidByText := true, laidKinds := [.data, .data, .data, .handle], laidTests := true, laidLooks := .later }
def FnExactLightReachCardSaid : Prop := Claim7.holds Tryz.pinned (.plain (OpenSpec.ofChange fnExactLightReachSpec)) fnExactLightReachCard

/-- THE TIED CARD OF 'laws.FnLightReach'. -/
def fnLightReachCard : Claim7 := { stood := { row := fnLightReachRow, standIns := [], harness := (true, "cfdd842f58022bdfd9f232de954b3c6fd5721e4ce960b5ca4f78455811415de8"), looks := true }, kinds := [], alts := [], laidByText := true, laidKinds := [.data, .data, .data, .handle], laidTests := true, laidLooks := .later }
def FnLightReachCardSaid : Prop := Claim7.holds Tryz.pinned (.plain (OpenSpec.ofChange fnLightReachSpec)) fnLightReachCard

/-- THE SECOND FORM's CARD OF 'laws.FnLightReachAll'. -/
def fnLightReachAllUptoCard : Claim7 := { stood := { row := fnLightReachAllUptoRow, standIns := [], harness := (true, "cfdd842f58022bdfd9f232de954b3c6fd5721e4ce960b5ca4f78455811415de8"), looks := true }, kinds := [], alts := [], laidByText := true, laidKinds := [.data, .data, .data, .handle], laidTests := true, laidLooks := .later }
def FnLightReachAllUptoCardSaid : Prop := Claim7.holds Tryz.pinned (.plain (OpenSpec.upto fnLightReachAllSpec)) fnLightReachAllUptoCard

/-- THE SECOND FORM's CARD OF 'laws.FnLightFalse'. -/
def fnLightFalseUptoCard : Claim7 := { stood := { row := fnLightFalseUptoRow, standIns := [], harness := (true, "cfdd842f58022bdfd9f232de954b3c6fd5721e4ce960b5ca4f78455811415de8"), looks := true }, kinds := [], alts := [], laidByText := true, laidKinds := [.data, .data, .data], laidTests := true, laidLooks := .later }
def FnLightFalseUptoCardSaid : Prop := Claim7.holds Tryz.pinned (.plain (OpenSpec.upto fnLightFalseSpec)) fnLightFalseUptoCard

/-- THE SECOND FORM's CARD OF 'laws.FnLightChain'. -/
def fnLightChainUptoCard : Claim7 := { stood := { row := fnLightChainUptoRow, standIns := [], harness := (true, "cfdd842f58022bdfd9f232de954b3c6fd5721e4ce960b5ca4f78455811415de8"), looks := true }, kinds := [], alts := [], laidByText := true, laidKinds := [.data, .data, .data], laidTests := true, laidLooks := .later }
def FnLightChainUptoCardSaid : Prop := Claim7.holds Tryz.pinned (.plain (OpenSpec.upto fnLightChainSpec)) fnLightChainUptoCard

/-- THE SECOND FORM's CARD OF 'laws.FnExactLightReach'. -/
def fnExactLightReachUptoCard : Claim7 := { stood := { row := fnExactLightReachUptoRow, standIns := [], harness := (true, "cfdd842f58022bdfd9f232de954b3c6fd5721e4ce960b5ca4f78455811415de8"), looks := true }, kinds := [], alts := [], laidByText := true, laidKinds := [.data, .data, .data, .handle], laidTests := true, laidLooks := .later }
def FnExactLightReachUptoCardSaid : Prop := Claim7.holds Tryz.pinned (.plain (OpenSpec.upto fnExactLightReachSpec)) fnExactLightReachUptoCard

/-- THE SECOND FORM's CARD OF 'laws.FnLightReach'. -/
def fnLightReachUptoCard : Claim7 := { stood := { row := fnLightReachUptoRow, standIns := [], harness := (true, "cfdd842f58022bdfd9f232de954b3c6fd5721e4ce960b5ca4f78455811415de8"), looks := true }, kinds := [], alts := [], laidByText := true, laidKinds := [.data, .data, .data, .handle], laidTests := true, laidLooks := .later }
def FnLightReachUptoCardSaid : Prop := Claim7.holds Tryz.pinned (.plain (OpenSpec.upto fnLightReachSpec)) fnLightReachUptoCard
end Rows
end Go.Proofs.YtlhbdhccddadaaaGreatDoor
