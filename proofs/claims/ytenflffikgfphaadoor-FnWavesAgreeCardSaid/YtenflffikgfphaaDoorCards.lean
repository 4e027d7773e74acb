/-
  DERIVED. GIVEN WITH THE SEED: THE CARDS: each row of YtenflffikgfphaaDoorRows.lean that lists a variable, with what it lists TIED to the program's text (the seventh form; the later family's looks); each row that meets fmt, with fmt's text TOLD by the authors' own Lean function (tested against real Go, not proved from fmt's source: count such statements apart). THE CARD IS WHAT COUNTS. Prove the row's statement (the work); the ties are given (YtenflffikgfphaaDoorTie.lean); close each card by the builder's one call (the guide's Derived/Test/ToyasCard.lean, 'card_holds'). Laid BY PROGRAM, IN A SANDBOX (cutbox-door.mjs). By AI agents, Wed Nov 11 2026. No macro, syntax, notation, axiom, sorry.
-/
import Derived.Test.YtenflffikgfphaaDoorRows
import GoSem.ClaimSeven
namespace Go.Proofs.YtenflffikgfphaaDoor
namespace Rows

/-- THE TIED CARD OF 'laws.FnWavesLeaders'. -/
def fnWavesLeadersCard : Claim7 := { stood := { row := fnWavesLeadersRow, standIns := [], harness := (true, "bfa79fbdafdcfe9c8dfb2c449914a895d3efdff2646c0670c6fd41c684712732"), looks := true }, kinds := [], alts := [], laidByText := true, laidKinds := [.sentinel, .sentinel, .sentinel], laidTests := true, laidLooks := .later }
def FnWavesLeadersCardSaid : Prop := Claim7.holds Tryd.pinned (.plain (OpenSpec.ofChange fnWavesLeadersSpec)) fnWavesLeadersCard

/-- THE TIED CARD OF 'laws.FnWavesDirect'. -/
def fnWavesDirectCard : Claim7 := { stood := { row := fnWavesDirectRow, standIns := [], harness := (true, "bfa79fbdafdcfe9c8dfb2c449914a895d3efdff2646c0670c6fd41c684712732"), looks := true }, kinds := [], alts := [], laidByText := true, laidKinds := [.sentinel, .sentinel, .sentinel], laidTests := true, laidLooks := .later }
def FnWavesDirectCardSaid : Prop := Claim7.holds Tryd.pinned (.plain (OpenSpec.ofChange fnWavesDirectSpec)) fnWavesDirectCard

/-- THE TIED CARD OF 'laws.FnWavesAscending'. -/
def fnWavesAscendingCard : Claim7 := { stood := { row := fnWavesAscendingRow, standIns := [], harness := (true, "bfa79fbdafdcfe9c8dfb2c449914a895d3efdff2646c0670c6fd41c684712732"), looks := true }, kinds := [], alts := [], laidByText := true, laidKinds := [.sentinel, .sentinel, .sentinel], laidTests := true, laidLooks := .later }
def FnWavesAscendingCardSaid : Prop := Claim7.holds Tryd.pinned (.plain (OpenSpec.ofChange fnWavesAscendingSpec)) fnWavesAscendingCard

/-- THE TIED CARD OF 'laws.FnWavesLinked'. -/
def fnWavesLinkedCard : Claim7 := { stood := { row := fnWavesLinkedRow, standIns := [], harness := (true, "bfa79fbdafdcfe9c8dfb2c449914a895d3efdff2646c0670c6fd41c684712732"), looks := true }, kinds := [], alts := [], laidByText := true, laidKinds := [.sentinel, .sentinel, .sentinel], laidTests := true, laidLooks := .later }
def FnWavesLinkedCardSaid : Prop := Claim7.holds Tryd.pinned (.plain (OpenSpec.ofChange fnWavesLinkedSpec)) fnWavesLinkedCard

/-- THE TIED CARD OF 'laws.FnWavesAgree'. -/
def fnWavesAgreeCard : Claim7 := { stood := { row := fnWavesAgreeRow, standIns := [], harness := (true, "bfa79fbdafdcfe9c8dfb2c449914a895d3efdff2646c0670c6fd41c684712732"), looks := true }, kinds := [], alts := [], laidByText := true, laidKinds := [.sentinel, .sentinel, .sentinel], laidTests := true, laidLooks := .later }
def FnWavesAgreeCardSaid : Prop := Claim7.holds Tryd.pinned (.plain (OpenSpec.ofChange fnWavesAgreeSpec)) fnWavesAgreeCard

/-- THE TIED CARD OF 'laws.FnWavesGrow'. -/
def fnWavesGrowCard : Claim7 := { stood := { row := fnWavesGrowRow, standIns := [], harness := (true, "bfa79fbdafdcfe9c8dfb2c449914a895d3efdff2646c0670c6fd41c684712732"), looks := true }, kinds := [], alts := [], laidByText := true, laidKinds := [.sentinel, .sentinel, .sentinel], laidTests := true, laidLooks := .later }
def FnWavesGrowCardSaid : Prop := Claim7.holds Tryd.pinned (.plain (OpenSpec.ofChange fnWavesGrowSpec)) fnWavesGrowCard

/-- THE TIED CARD OF 'laws.FnWavesReach'. -/
def fnWavesReachCard : Claim7 := { stood := { row := fnWavesReachRow, standIns := [], harness := (true, "bfa79fbdafdcfe9c8dfb2c449914a895d3efdff2646c0670c6fd41c684712732"), looks := true }, kinds := [], alts := [], laidByText := true, laidKinds := [.sentinel, .sentinel, .sentinel], laidTests := true, laidLooks := .later }
def FnWavesReachCardSaid : Prop := Claim7.holds Tryd.pinned (.plain (OpenSpec.ofChange fnWavesReachSpec)) fnWavesReachCard

/-- THE SECOND FORM's CARD OF 'laws.FnWavesLeaders'. -/
def fnWavesLeadersUptoCard : Claim7 := { stood := { row := fnWavesLeadersUptoRow, standIns := [], harness := (true, "bfa79fbdafdcfe9c8dfb2c449914a895d3efdff2646c0670c6fd41c684712732"), looks := true }, kinds := [], alts := [], laidByText := true, laidKinds := [.sentinel, .sentinel, .sentinel], laidTests := true, laidLooks := .later }
def FnWavesLeadersUptoCardSaid : Prop := Claim7.holds Tryd.pinned (.plain (OpenSpec.upto fnWavesLeadersSpec)) fnWavesLeadersUptoCard

/-- THE SECOND FORM's CARD OF 'laws.FnWavesDirect'. -/
def fnWavesDirectUptoCard : Claim7 := { stood := { row := fnWavesDirectUptoRow, standIns := [], harness := (true, "bfa79fbdafdcfe9c8dfb2c449914a895d3efdff2646c0670c6fd41c684712732"), looks := true }, kinds := [], alts := [], laidByText := true, laidKinds := [.sentinel, .sentinel, .sentinel], laidTests := true, laidLooks := .later }
def FnWavesDirectUptoCardSaid : Prop := Claim7.holds Tryd.pinned (.plain (OpenSpec.upto fnWavesDirectSpec)) fnWavesDirectUptoCard

/-- THE SECOND FORM's CARD OF 'laws.FnWavesAscending'. -/
def fnWavesAscendingUptoCard : Claim7 := { stood := { row := fnWavesAscendingUptoRow, standIns := [], harness := (true, "bfa79fbdafdcfe9c8dfb2c449914a895d3efdff2646c0670c6fd41c684712732"), looks := true }, kinds := [], alts := [], laidByText := true, laidKinds := [.sentinel, .sentinel, .sentinel], laidTests := true, laidLooks := .later }
def FnWavesAscendingUptoCardSaid : Prop := Claim7.holds Tryd.pinned (.plain (OpenSpec.upto fnWavesAscendingSpec)) fnWavesAscendingUptoCard

/-- THE SECOND FORM's CARD OF 'laws.FnWavesLinked'. -/
def fnWavesLinkedUptoCard : Claim7 := { stood := { row := fnWavesLinkedUptoRow, standIns := [], harness := (true, "bfa79fbdafdcfe9c8dfb2c449914a895d3efdff2646c0670c6fd41c684712732"), looks := true }, kinds := [], alts := [], laidByText := true, laidKinds := [.sentinel, .sentinel, .sentinel], laidTests := true, laidLooks := .later }
def FnWavesLinkedUptoCardSaid : Prop := Claim7.holds Tryd.pinned (.plain (OpenSpec.upto fnWavesLinkedSpec)) fnWavesLinkedUptoCard

/-- THE SECOND FORM's CARD OF 'laws.FnWavesAgree'. -/
def fnWavesAgreeUptoCard : Claim7 := { stood := { row := fnWavesAgreeUptoRow, standIns := [], harness := (true, "bfa79fbdafdcfe9c8dfb2c449914a895d3efdff2646c0670c6fd41c684712732"), looks := true }, kinds := [], alts := [], laidByText := true, laidKinds := [.sentinel, .sentinel, .sentinel], laidTests := true, laidLooks := .later }
def FnWavesAgreeUptoCardSaid : Prop := Claim7.holds Tryd.pinned (.plain (OpenSpec.upto fnWavesAgreeSpec)) fnWavesAgreeUptoCard

/-- THE SECOND FORM's CARD OF 'laws.FnWavesGrow'. -/
def fnWavesGrowUptoCard : Claim7 := { stood := { row := fnWavesGrowUptoRow, standIns := [], harness := (true, "bfa79fbdafdcfe9c8dfb2c449914a895d3efdff2646c0670c6fd41c684712732"), looks := true }, kinds := [], alts := [], laidByText := true, laidKinds := [.sentinel, .sentinel, .sentinel], laidTests := true, laidLooks := .later }
def FnWavesGrowUptoCardSaid : Prop := Claim7.holds Tryd.pinned (.plain (OpenSpec.upto fnWavesGrowSpec)) fnWavesGrowUptoCard

/-- THE SECOND FORM's CARD OF 'laws.FnWavesReach'. -/
def fnWavesReachUptoCard : Claim7 := { stood := { row := fnWavesReachUptoRow, standIns := [], harness := (true, "bfa79fbdafdcfe9c8dfb2c449914a895d3efdff2646c0670c6fd41c684712732"), looks := true }, kinds := [], alts := [], laidByText := true, laidKinds := [.sentinel, .sentinel, .sentinel], laidTests := true, laidLooks := .later }
def FnWavesReachUptoCardSaid : Prop := Claim7.holds Tryd.pinned (.plain (OpenSpec.upto fnWavesReachSpec)) fnWavesReachUptoCard
end Rows
end Go.Proofs.YtenflffikgfphaaDoor
