/-
  DERIVED. GIVEN WITH THE SEED: THE CARDS: each row of YtkabnbjlglippaaGreatDoorRows.lean that lists a variable, with what it lists TIED to the program's text (the seventh form; the later family's looks); each row that meets fmt, with fmt's text TOLD by the authors' own Lean function (tested against real Go, not proved from fmt's source: count such statements apart). THE CARD IS WHAT COUNTS. Prove the row's statement (the work); the ties are given (YtkabnbjlglippaaGreatDoorTie.lean); close each card by the builder's one call (the guide's Derived/Test/ToyasCard.lean, 'card_holds'). Laid BY PROGRAM, IN A SANDBOX (cutbox-door.mjs). By AI agents, Wed Nov 11 2026. No macro, syntax, notation, axiom, sorry.
-/
import Derived.Test.YtkabnbjlglippaaGreatDoorRows
import GoSem.ClaimSeven
namespace Go.Proofs.YtkabnbjlglippaaGreatDoor
namespace Rows

/-- THE TIED CARD OF 'laws.FnExactOrderDigests'. -/
def fnExactOrderDigestsCard : Claim7 := { stood := { row := fnExactOrderDigestsRow, standIns := [], harness := (true, "fc87e1786845e79cf57255db44c8a4ad6d6a414396e546cdec40f0f61b4eb2ee"), looks := true }, kinds := [], alts := [], laidByText := true, laidKinds := [.sentinel, .sentinel, .sentinel], laidTests := true, laidLooks := .later }
def FnExactOrderDigestsCardSaid : Prop := Claim7.holds Tryz.pinned (.plain (OpenSpec.ofChange fnExactOrderDigestsSpec)) fnExactOrderDigestsCard

/-- THE TIED CARD OF 'laws.FnExactOrderSlots'. -/
def fnExactOrderSlotsCard : Claim7 := { stood := { row := fnExactOrderSlotsRow, standIns := [], harness := (true, "fc87e1786845e79cf57255db44c8a4ad6d6a414396e546cdec40f0f61b4eb2ee"), looks := true }, kinds := [], alts := [], laidByText := true, laidKinds := [.sentinel, .sentinel, .sentinel], laidTests := true, laidLooks := .later }
def FnExactOrderSlotsCardSaid : Prop := Claim7.holds Tryz.pinned (.plain (OpenSpec.ofChange fnExactOrderSlotsSpec)) fnExactOrderSlotsCard

/-- THE TIED CARD OF 'laws.FnOrderLeaders'. -/
def fnOrderLeadersCard : Claim7 := { stood := { row := fnOrderLeadersRow, standIns := [], harness := (true, "fc87e1786845e79cf57255db44c8a4ad6d6a414396e546cdec40f0f61b4eb2ee"), looks := true }, kinds := [], alts := [], laidByText := true, laidKinds := [.sentinel, .sentinel, .sentinel], laidTests := true, laidLooks := .later }
def FnOrderLeadersCardSaid : Prop := Claim7.holds Tryz.pinned (.plain (OpenSpec.ofChange fnOrderLeadersSpec)) fnOrderLeadersCard

/-- THE TIED CARD OF 'laws.FnOrderWaves'. -/
def fnOrderWavesCard : Claim7 := { stood := { row := fnOrderWavesRow, standIns := [], harness := (true, "fc87e1786845e79cf57255db44c8a4ad6d6a414396e546cdec40f0f61b4eb2ee"), looks := true }, kinds := [], alts := [], laidByText := true, laidKinds := [.sentinel, .sentinel, .sentinel], laidTests := true, laidLooks := .later }
def FnOrderWavesCardSaid : Prop := Claim7.holds Tryz.pinned (.plain (OpenSpec.ofChange fnOrderWavesSpec)) fnOrderWavesCard

/-- THE TIED CARD OF 'laws.FnOrderQuorum'. -/
def fnOrderQuorumCard : Claim7 := { stood := { row := fnOrderQuorumRow, standIns := [], harness := (true, "fc87e1786845e79cf57255db44c8a4ad6d6a414396e546cdec40f0f61b4eb2ee"), looks := true }, kinds := [], alts := [], laidByText := true, laidKinds := [.sentinel, .sentinel, .sentinel], laidTests := true, laidLooks := .later }
def FnOrderQuorumCardSaid : Prop := Claim7.holds Tryz.pinned (.plain (OpenSpec.ofChange fnOrderQuorumSpec)) fnOrderQuorumCard

/-- THE TIED CARD OF 'laws.FnOrderCausal'. -/
def fnOrderCausalCard : Claim7 := { stood := { row := fnOrderCausalRow, standIns := [], harness := (true, "fc87e1786845e79cf57255db44c8a4ad6d6a414396e546cdec40f0f61b4eb2ee"), looks := true }, kinds := [], alts := [], laidByText := true, laidKinds := [.sentinel, .sentinel, .sentinel], laidTests := true, laidLooks := .later }
def FnOrderCausalCardSaid : Prop := Claim7.holds Tryz.pinned (.plain (OpenSpec.ofChange fnOrderCausalSpec)) fnOrderCausalCard

/-- THE TIED CARD OF 'laws.FnOrderOnce'. -/
def fnOrderOnceCard : Claim7 := { stood := { row := fnOrderOnceRow, standIns := [], harness := (true, "fc87e1786845e79cf57255db44c8a4ad6d6a414396e546cdec40f0f61b4eb2ee"), looks := true }, kinds := [], alts := [], laidByText := true, laidKinds := [.sentinel, .sentinel, .sentinel], laidTests := true, laidLooks := .later }
def FnOrderOnceCardSaid : Prop := Claim7.holds Tryz.pinned (.plain (OpenSpec.ofChange fnOrderOnceSpec)) fnOrderOnceCard

/-- THE TIED CARD OF 'laws.FnOrderWave'. -/
def fnOrderWaveCard : Claim7 := { stood := { row := fnOrderWaveRow, standIns := [], harness := (true, "fc87e1786845e79cf57255db44c8a4ad6d6a414396e546cdec40f0f61b4eb2ee"), looks := true }, kinds := [], alts := [], laidByText := true, laidKinds := [.sentinel, .sentinel, .sentinel], laidTests := true, laidLooks := .later }
def FnOrderWaveCardSaid : Prop := Claim7.holds Tryz.pinned (.plain (OpenSpec.ofChange fnOrderWaveSpec)) fnOrderWaveCard

/-- THE TIED CARD OF 'laws.FnOrderDigests'. -/
def fnOrderDigestsCard : Claim7 := { stood := { row := fnOrderDigestsRow, standIns := [], harness := (true, "fc87e1786845e79cf57255db44c8a4ad6d6a414396e546cdec40f0f61b4eb2ee"), looks := true }, kinds := [], alts := [], laidByText := true, laidKinds := [.sentinel, .sentinel, .sentinel], laidTests := true, laidLooks := .later }
def FnOrderDigestsCardSaid : Prop := Claim7.holds Tryz.pinned (.plain (OpenSpec.ofChange fnOrderDigestsSpec)) fnOrderDigestsCard

/-- THE TIED CARD OF 'laws.FnOrderPast'. -/
def fnOrderPastCard : Claim7 := { stood := { row := fnOrderPastRow, standIns := [], harness := (true, "fc87e1786845e79cf57255db44c8a4ad6d6a414396e546cdec40f0f61b4eb2ee"), looks := true }, kinds := [], alts := [], laidByText := true, laidKinds := [.sentinel, .sentinel, .sentinel], laidTests := true, laidLooks := .later }
def FnOrderPastCardSaid : Prop := Claim7.holds Tryz.pinned (.plain (OpenSpec.ofChange fnOrderPastSpec)) fnOrderPastCard

/-- THE TIED CARD OF 'laws.FnOrderAgree'. -/
def fnOrderAgreeCard : Claim7 := { stood := { row := fnOrderAgreeRow, standIns := [], harness := (true, "fc87e1786845e79cf57255db44c8a4ad6d6a414396e546cdec40f0f61b4eb2ee"), looks := true }, kinds := [], alts := [], laidByText := true, laidKinds := [.sentinel, .sentinel, .sentinel], laidTests := true, laidLooks := .later }
def FnOrderAgreeCardSaid : Prop := Claim7.holds Tryz.pinned (.plain (OpenSpec.ofChange fnOrderAgreeSpec)) fnOrderAgreeCard

/-- THE TIED CARD OF 'laws.FnOrderGrow'. -/
def fnOrderGrowCard : Claim7 := { stood := { row := fnOrderGrowRow, standIns := [], harness := (true, "fc87e1786845e79cf57255db44c8a4ad6d6a414396e546cdec40f0f61b4eb2ee"), looks := true }, kinds := [], alts := [], laidByText := true, laidKinds := [.sentinel, .sentinel, .sentinel], laidTests := true, laidLooks := .later }
def FnOrderGrowCardSaid : Prop := Claim7.holds Tryz.pinned (.plain (OpenSpec.ofChange fnOrderGrowSpec)) fnOrderGrowCard

/-- THE SECOND FORM's CARD OF 'laws.FnExactOrderDigests'. -/
def fnExactOrderDigestsUptoCard : Claim7 := { stood := { row := fnExactOrderDigestsUptoRow, standIns := [], harness := (true, "fc87e1786845e79cf57255db44c8a4ad6d6a414396e546cdec40f0f61b4eb2ee"), looks := true }, kinds := [], alts := [], laidByText := true, laidKinds := [.sentinel, .sentinel, .sentinel], laidTests := true, laidLooks := .later }
def FnExactOrderDigestsUptoCardSaid : Prop := Claim7.holds Tryz.pinned (.plain (OpenSpec.upto fnExactOrderDigestsSpec)) fnExactOrderDigestsUptoCard

/-- THE SECOND FORM's CARD OF 'laws.FnExactOrderSlots'. -/
def fnExactOrderSlotsUptoCard : Claim7 := { stood := { row := fnExactOrderSlotsUptoRow, standIns := [], harness := (true, "fc87e1786845e79cf57255db44c8a4ad6d6a414396e546cdec40f0f61b4eb2ee"), looks := true }, kinds := [], alts := [], laidByText := true, laidKinds := [.sentinel, .sentinel, .sentinel], laidTests := true, laidLooks := .later }
def FnExactOrderSlotsUptoCardSaid : Prop := Claim7.holds Tryz.pinned (.plain (OpenSpec.upto fnExactOrderSlotsSpec)) fnExactOrderSlotsUptoCard

/-- THE SECOND FORM's CARD OF 'laws.FnOrderLeaders'. -/
def fnOrderLeadersUptoCard : Claim7 := { stood := { row := fnOrderLeadersUptoRow, standIns := [], harness := (true, "fc87e1786845e79cf57255db44c8a4ad6d6a414396e546cdec40f0f61b4eb2ee"), looks := true }, kinds := [], alts := [], laidByText := true, laidKinds := [.sentinel, .sentinel, .sentinel], laidTests := true, laidLooks := .later }
def FnOrderLeadersUptoCardSaid : Prop := Claim7.holds Tryz.pinned (.plain (OpenSpec.upto fnOrderLeadersSpec)) fnOrderLeadersUptoCard

/-- THE SECOND FORM's CARD OF 'laws.FnOrderWaves'. -/
def fnOrderWavesUptoCard : Claim7 := { stood := { row := fnOrderWavesUptoRow, standIns := [], harness := (true, "fc87e1786845e79cf57255db44c8a4ad6d6a414396e546cdec40f0f61b4eb2ee"), looks := true }, kinds := [], alts := [], laidByText := true, laidKinds := [.sentinel, .sentinel, .sentinel], laidTests := true, laidLooks := .later }
def FnOrderWavesUptoCardSaid : Prop := Claim7.holds Tryz.pinned (.plain (OpenSpec.upto fnOrderWavesSpec)) fnOrderWavesUptoCard

/-- THE SECOND FORM's CARD OF 'laws.FnOrderQuorum'. -/
def fnOrderQuorumUptoCard : Claim7 := { stood := { row := fnOrderQuorumUptoRow, standIns := [], harness := (true, "fc87e1786845e79cf57255db44c8a4ad6d6a414396e546cdec40f0f61b4eb2ee"), looks := true }, kinds := [], alts := [], laidByText := true, laidKinds := [.sentinel, .sentinel, .sentinel], laidTests := true, laidLooks := .later }
def FnOrderQuorumUptoCardSaid : Prop := Claim7.holds Tryz.pinned (.plain (OpenSpec.upto fnOrderQuorumSpec)) fnOrderQuorumUptoCard

/-- THE SECOND FORM's CARD OF 'laws.FnOrderCausal'. -/
def fnOrderCausalUptoCard : Claim7 := { stood := { row := fnOrderCausalUptoRow, standIns := [], harness := (true, "fc87e1786845e79cf57255db44c8a4ad6d6a414396e546cdec40f0f61b4eb2ee"), looks := true }, kinds := [], alts := [], laidByText := true, laidKinds := [.sentinel, .sentinel, .sentinel], laidTests := true, laidLooks := .later }
def FnOrderCausalUptoCardSaid : Prop := Claim7.holds Tryz.pinned (.plain (OpenSpec.upto fnOrderCausalSpec)) fnOrderCausalUptoCard

/-- THE SECOND FORM's CARD OF 'laws.FnOrderOnce'. -/
def fnOrderOnceUptoCard : Claim7 := { stood := { row := fnOrderOnceUptoRow, standIns := [], harness := (true, "fc87e1786845e79cf57255db44c8a4ad6d6a414396e546cdec40f0f61b4eb2ee"), looks := true }, kinds := [], alts := [], laidByText := true, laidKinds := [.sentinel, .sentinel, .sentinel], laidTests := true, laidLooks := .later }
def FnOrderOnceUptoCardSaid : Prop := Claim7.holds Tryz.pinned (.plain (OpenSpec.upto fnOrderOnceSpec)) fnOrderOnceUptoCard

/-- THE SECOND FORM's CARD OF 'laws.FnOrderWave'. -/
def fnOrderWaveUptoCard : Claim7 := { stood := { row := fnOrderWaveUptoRow, standIns := [], harness := (true, "fc87e1786845e79cf57255db44c8a4ad6d6a414396e546cdec40f0f61b4eb2ee"), looks := true }, kinds := [], alts := [], laidByText := true, laidKinds := [.sentinel, .sentinel, .sentinel], laidTests := true, laidLooks := .later }
def FnOrderWaveUptoCardSaid : Prop := Claim7.holds Tryz.pinned (.plain (OpenSpec.upto fnOrderWaveSpec)) fnOrderWaveUptoCard

/-- THE SECOND FORM's CARD OF 'laws.FnOrderDigests'. -/
def fnOrderDigestsUptoCard : Claim7 := { stood := { row := fnOrderDigestsUptoRow, standIns := [], harness := (true, "fc87e1786845e79cf57255db44c8a4ad6d6a414396e546cdec40f0f61b4eb2ee"), looks := true }, kinds := [], alts := [], laidByText := true, laidKinds := [.sentinel, .sentinel, .sentinel], laidTests := true, laidLooks := .later }
def FnOrderDigestsUptoCardSaid : Prop := Claim7.holds Tryz.pinned (.plain (OpenSpec.upto fnOrderDigestsSpec)) fnOrderDigestsUptoCard

/-- THE SECOND FORM's CARD OF 'laws.FnOrderPast'. -/
def fnOrderPastUptoCard : Claim7 := { stood := { row := fnOrderPastUptoRow, standIns := [], harness := (true, "fc87e1786845e79cf57255db44c8a4ad6d6a414396e546cdec40f0f61b4eb2ee"), looks := true }, kinds := [], alts := [], laidByText := true, laidKinds := [.sentinel, .sentinel, .sentinel], laidTests := true, laidLooks := .later }
def FnOrderPastUptoCardSaid : Prop := Claim7.holds Tryz.pinned (.plain (OpenSpec.upto fnOrderPastSpec)) fnOrderPastUptoCard

/-- THE SECOND FORM's CARD OF 'laws.FnOrderAgree'. -/
def fnOrderAgreeUptoCard : Claim7 := { stood := { row := fnOrderAgreeUptoRow, standIns := [], harness := (true, "fc87e1786845e79cf57255db44c8a4ad6d6a414396e546cdec40f0f61b4eb2ee"), looks := true }, kinds := [], alts := [], laidByText := true, laidKinds := [.sentinel, .sentinel, .sentinel], laidTests := true, laidLooks := .later }
def FnOrderAgreeUptoCardSaid : Prop := Claim7.holds Tryz.pinned (.plain (OpenSpec.upto fnOrderAgreeSpec)) fnOrderAgreeUptoCard

/-- THE SECOND FORM's CARD OF 'laws.FnOrderGrow'. -/
def fnOrderGrowUptoCard : Claim7 := { stood := { row := fnOrderGrowUptoRow, standIns := [], harness := (true, "fc87e1786845e79cf57255db44c8a4ad6d6a414396e546cdec40f0f61b4eb2ee"), looks := true }, kinds := [], alts := [], laidByText := true, laidKinds := [.sentinel, .sentinel, .sentinel], laidTests := true, laidLooks := .later }
def FnOrderGrowUptoCardSaid : Prop := Claim7.holds Tryz.pinned (.plain (OpenSpec.upto fnOrderGrowSpec)) fnOrderGrowUptoCard
end Rows
end Go.Proofs.YtkabnbjlglippaaGreatDoor
