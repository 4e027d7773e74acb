/-
  DERIVED. GIVEN WITH THE SEED: THE CARDS: each row of YtbpnfmpbaohklaaDoorRows.lean that lists a variable, with what it lists TIED to the program's text (the seventh form; the later family's looks); each row that meets fmt, with fmt's text TOLD by the authors' own Lean function (tested against real Go, not proved from fmt's source: count such statements apart). THE CARD IS WHAT COUNTS. Prove the row's statement (the work); the ties are given (YtbpnfmpbaohklaaDoorTie.lean); close each card by the builder's one call (the guide's Derived/Test/ToyasCard.lean, 'card_holds'). Laid BY PROGRAM, IN A SANDBOX (cutbox-door.mjs). By AI agents, Wed Nov 11 2026. No macro, syntax, notation, axiom, sorry.
-/
import Derived.Test.YtbpnfmpbaohklaaDoorRows
import GoSem.ClaimSeven
namespace Go.Proofs.YtbpnfmpbaohklaaDoor
namespace Rows

/-- THE TIED CARD OF 'laws.FnExactLinkCheck'. -/
def fnExactLinkCheckCard : Claim7 := { stood := { row := fnExactLinkCheckRow, standIns := [], harness := (true, "8ce3256ccd44b6c340a795d93dc3e1430048b1e6e866d0ac1c6a290d5bafb18e"), looks := true }, kinds := [], alts := [], laidByText := true, laidKinds := [.data, .data, .data], laidTests := true, laidLooks := .later }
def FnExactLinkCheckCardSaid : Prop := Claim7.holds Tryd.pinned (.plain (OpenSpec.ofChange fnExactLinkCheckSpec)) fnExactLinkCheckCard

/-- THE TIED CARD OF 'laws.FnExactLightFork'. -/
def fnExactLightForkCard : Claim7 := { stood := { row := fnExactLightForkRow, standIns := [], harness := (true, "8ce3256ccd44b6c340a795d93dc3e1430048b1e6e866d0ac1c6a290d5bafb18e"), looks := true }, kinds := [], alts := [], laidByText := true, laidKinds := [.data, .data, .data], laidTests := true, laidLooks := .later }
def FnExactLightForkCardSaid : Prop := Claim7.holds Tryd.pinned (.plain (OpenSpec.ofChange fnExactLightForkSpec)) fnExactLightForkCard

/-- THE TIED CARD OF 'laws.FnExactLinkMake'. -/
def fnExactLinkMakeCard : Claim7 := { stood := { row := fnExactLinkMakeRow, standIns := [], harness := (true, "8ce3256ccd44b6c340a795d93dc3e1430048b1e6e866d0ac1c6a290d5bafb18e"), looks := true }, kinds := [], alts := [], laidByText := true, laidKinds := [.data, .data, .data], laidTests := true, laidLooks := .later }
def FnExactLinkMakeCardSaid : Prop := Claim7.holds Tryd.pinned (.plain (OpenSpec.ofChange fnExactLinkMakeSpec)) fnExactLinkMakeCard

/-- THE TIED CARD OF 'laws.FnLightForkMembers'. -/
def fnLightForkMembersCard : Claim7 := { stood := { row := fnLightForkMembersRow, standIns := [], harness := (true, "8ce3256ccd44b6c340a795d93dc3e1430048b1e6e866d0ac1c6a290d5bafb18e"), looks := true }, kinds := [], alts := [], laidByText := true, laidKinds := [.data, .data, .data], laidTests := true, laidLooks := .later }
def FnLightForkMembersCardSaid : Prop := Claim7.holds Tryd.pinned (.plain (OpenSpec.ofChange fnLightForkMembersSpec)) fnLightForkMembersCard

/-- THE TIED CARD OF 'laws.FnLightFork'. -/
def fnLightForkCard : Claim7 := { stood := { row := fnLightForkRow, standIns := [], harness := (true, "8ce3256ccd44b6c340a795d93dc3e1430048b1e6e866d0ac1c6a290d5bafb18e"), looks := true }, kinds := [], alts := [], laidByText := true, laidKinds := [.data, .data, .data], laidTests := true, laidLooks := .later }
def FnLightForkCardSaid : Prop := Claim7.holds Tryd.pinned (.plain (OpenSpec.ofChange fnLightForkSpec)) fnLightForkCard

/-- THE TIED CARD OF 'laws.FnLinkQuorum'. -/
def fnLinkQuorumCard : Claim7 := { stood := { row := fnLinkQuorumRow, standIns := [], harness := (true, "8ce3256ccd44b6c340a795d93dc3e1430048b1e6e866d0ac1c6a290d5bafb18e"), looks := true }, kinds := [], alts := [], laidByText := true, laidKinds := [.data, .data, .data], laidTests := true, laidLooks := .later }
def FnLinkQuorumCardSaid : Prop := Claim7.holds Tryd.pinned (.plain (OpenSpec.ofChange fnLinkQuorumSpec)) fnLinkQuorumCard

/-- THE TIED CARD OF 'laws.FnLinkEpoch'. -/
def fnLinkEpochCard : Claim7 := { stood := { row := fnLinkEpochRow, standIns := [], harness := (true, "8ce3256ccd44b6c340a795d93dc3e1430048b1e6e866d0ac1c6a290d5bafb18e"), looks := true }, kinds := [], alts := [], laidByText := true, laidKinds := [.data, .data, .data], laidTests := true, laidLooks := .later }
def FnLinkEpochCardSaid : Prop := Claim7.holds Tryd.pinned (.plain (OpenSpec.ofChange fnLinkEpochSpec)) fnLinkEpochCard

/-- THE TIED CARD OF 'laws.FnLinkRoundTrip'. -/
def fnLinkRoundTripCard : Claim7 := { stood := { row := fnLinkRoundTripRow, standIns := [], harness := (true, "8ce3256ccd44b6c340a795d93dc3e1430048b1e6e866d0ac1c6a290d5bafb18e"), looks := true }, kinds := [], alts := [], laidByText := true, laidKinds := [.data, .data, .data], laidTests := true, laidLooks := .later }
def FnLinkRoundTripCardSaid : Prop := Claim7.holds Tryd.pinned (.plain (OpenSpec.ofChange fnLinkRoundTripSpec)) fnLinkRoundTripCard

/-- THE TIED CARD OF 'laws.FnExactChainCheck'. -/
def fnExactChainCheckCard : Claim7 := { stood := { row := fnExactChainCheckRow, standIns := [], harness := (true, "8ce3256ccd44b6c340a795d93dc3e1430048b1e6e866d0ac1c6a290d5bafb18e"), looks := true }, kinds := [], alts := [], laidByText := true, laidKinds := [.data, .data, .data], laidTests := true, laidLooks := .later }
def FnExactChainCheckCardSaid : Prop := Claim7.holds Tryd.pinned (.plain (OpenSpec.ofChange fnExactChainCheckSpec)) fnExactChainCheckCard

/-- THE SECOND FORM's CARD OF 'laws.FnExactLinkCheck'. -/
def fnExactLinkCheckUptoCard : Claim7 := { stood := { row := fnExactLinkCheckUptoRow, standIns := [], harness := (true, "8ce3256ccd44b6c340a795d93dc3e1430048b1e6e866d0ac1c6a290d5bafb18e"), looks := true }, kinds := [], alts := [], laidByText := true, laidKinds := [.data, .data, .data], laidTests := true, laidLooks := .later }
def FnExactLinkCheckUptoCardSaid : Prop := Claim7.holds Tryd.pinned (.plain (OpenSpec.upto fnExactLinkCheckSpec)) fnExactLinkCheckUptoCard

/-- THE SECOND FORM's CARD OF 'laws.FnExactLightFork'. -/
def fnExactLightForkUptoCard : Claim7 := { stood := { row := fnExactLightForkUptoRow, standIns := [], harness := (true, "8ce3256ccd44b6c340a795d93dc3e1430048b1e6e866d0ac1c6a290d5bafb18e"), looks := true }, kinds := [], alts := [], laidByText := true, laidKinds := [.data, .data, .data], laidTests := true, laidLooks := .later }
def FnExactLightForkUptoCardSaid : Prop := Claim7.holds Tryd.pinned (.plain (OpenSpec.upto fnExactLightForkSpec)) fnExactLightForkUptoCard

/-- THE SECOND FORM's CARD OF 'laws.FnExactLinkMake'. -/
def fnExactLinkMakeUptoCard : Claim7 := { stood := { row := fnExactLinkMakeUptoRow, standIns := [], harness := (true, "8ce3256ccd44b6c340a795d93dc3e1430048b1e6e866d0ac1c6a290d5bafb18e"), looks := true }, kinds := [], alts := [], laidByText := true, laidKinds := [.data, .data, .data], laidTests := true, laidLooks := .later }
def FnExactLinkMakeUptoCardSaid : Prop := Claim7.holds Tryd.pinned (.plain (OpenSpec.upto fnExactLinkMakeSpec)) fnExactLinkMakeUptoCard

/-- THE SECOND FORM's CARD OF 'laws.FnLightForkMembers'. -/
def fnLightForkMembersUptoCard : Claim7 := { stood := { row := fnLightForkMembersUptoRow, standIns := [], harness := (true, "8ce3256ccd44b6c340a795d93dc3e1430048b1e6e866d0ac1c6a290d5bafb18e"), looks := true }, kinds := [], alts := [], laidByText := true, laidKinds := [.data, .data, .data], laidTests := true, laidLooks := .later }
def FnLightForkMembersUptoCardSaid : Prop := Claim7.holds Tryd.pinned (.plain (OpenSpec.upto fnLightForkMembersSpec)) fnLightForkMembersUptoCard

/-- THE SECOND FORM's CARD OF 'laws.FnLightFork'. -/
def fnLightForkUptoCard : Claim7 := { stood := { row := fnLightForkUptoRow, standIns := [], harness := (true, "8ce3256ccd44b6c340a795d93dc3e1430048b1e6e866d0ac1c6a290d5bafb18e"), looks := true }, kinds := [], alts := [], laidByText := true, laidKinds := [.data, .data, .data], laidTests := true, laidLooks := .later }
def FnLightForkUptoCardSaid : Prop := Claim7.holds Tryd.pinned (.plain (OpenSpec.upto fnLightForkSpec)) fnLightForkUptoCard

/-- THE SECOND FORM's CARD OF 'laws.FnLinkQuorum'. -/
def fnLinkQuorumUptoCard : Claim7 := { stood := { row := fnLinkQuorumUptoRow, standIns := [], harness := (true, "8ce3256ccd44b6c340a795d93dc3e1430048b1e6e866d0ac1c6a290d5bafb18e"), looks := true }, kinds := [], alts := [], laidByText := true, laidKinds := [.data, .data, .data], laidTests := true, laidLooks := .later }
def FnLinkQuorumUptoCardSaid : Prop := Claim7.holds Tryd.pinned (.plain (OpenSpec.upto fnLinkQuorumSpec)) fnLinkQuorumUptoCard

/-- THE SECOND FORM's CARD OF 'laws.FnLinkEpoch'. -/
def fnLinkEpochUptoCard : Claim7 := { stood := { row := fnLinkEpochUptoRow, standIns := [], harness := (true, "8ce3256ccd44b6c340a795d93dc3e1430048b1e6e866d0ac1c6a290d5bafb18e"), looks := true }, kinds := [], alts := [], laidByText := true, laidKinds := [.data, .data, .data], laidTests := true, laidLooks := .later }
def FnLinkEpochUptoCardSaid : Prop := Claim7.holds Tryd.pinned (.plain (OpenSpec.upto fnLinkEpochSpec)) fnLinkEpochUptoCard

/-- THE SECOND FORM's CARD OF 'laws.FnLinkRoundTrip'. -/
def fnLinkRoundTripUptoCard : Claim7 := { stood := { row := fnLinkRoundTripUptoRow, standIns := [], harness := (true, "8ce3256ccd44b6c340a795d93dc3e1430048b1e6e866d0ac1c6a290d5bafb18e"), looks := true }, kinds := [], alts := [], laidByText := true, laidKinds := [.data, .data, .data], laidTests := true, laidLooks := .later }
def FnLinkRoundTripUptoCardSaid : Prop := Claim7.holds Tryd.pinned (.plain (OpenSpec.upto fnLinkRoundTripSpec)) fnLinkRoundTripUptoCard

/-- THE SECOND FORM's CARD OF 'laws.FnExactChainCheck'. -/
def fnExactChainCheckUptoCard : Claim7 := { stood := { row := fnExactChainCheckUptoRow, standIns := [], harness := (true, "8ce3256ccd44b6c340a795d93dc3e1430048b1e6e866d0ac1c6a290d5bafb18e"), looks := true }, kinds := [], alts := [], laidByText := true, laidKinds := [.data, .data, .data], laidTests := true, laidLooks := .later }
def FnExactChainCheckUptoCardSaid : Prop := Claim7.holds Tryd.pinned (.plain (OpenSpec.upto fnExactChainCheckSpec)) fnExactChainCheckUptoCard
end Rows
end Go.Proofs.YtbpnfmpbaohklaaDoor
