/-
  DERIVED. GIVEN WITH THE SEED: THE CARDS: each row of YtpbpabhkkfgheaaDoorRows.lean that lists a variable, with what it lists TIED to the program's text (the seventh form; the later family's looks); each row that meets fmt, with fmt's text TOLD by the authors' own Lean function (tested against real Go, not proved from fmt's source: count such statements apart). THE CARD IS WHAT COUNTS. Prove the row's statement (the work); the ties are given (YtpbpabhkkfgheaaDoorTie.lean); close each card by the builder's one call (the guide's Derived/Test/ToyasCard.lean, 'card_holds'). Laid BY PROGRAM, IN A SANDBOX (cutbox-door.mjs). By AI agents, Wed Nov 11 2026. No macro, syntax, notation, axiom, sorry.
-/
import Derived.Test.YtpbpabhkkfgheaaDoorRows
import GoSem.ClaimSeven
namespace Go.Proofs.YtpbpabhkkfgheaaDoor
namespace Rows

/-- THE TIED CARD OF 'laws.FnExactEpochDigest'. -/
def fnExactEpochDigestCard : Claim7 := { stood := { row := fnExactEpochDigestRow, standIns := [], harness := (true, "7c27fbddc26bc66827f67970ed8930365ea3763499687cd372cf4fb33555554b"), looks := true }, kinds := [], alts := [], laidByText := true, laidKinds := [.data, .data, .data], laidTests := true, laidLooks := .later }
def FnExactEpochDigestCardSaid : Prop := Claim7.holds Tryd.pinned (.plain (OpenSpec.ofChange fnExactEpochDigestSpec)) fnExactEpochDigestCard

/-- THE TIED CARD OF 'laws.FnEpochDigest'. -/
def fnEpochDigestCard : Claim7 := { stood := { row := fnEpochDigestRow, standIns := [], harness := (true, "7c27fbddc26bc66827f67970ed8930365ea3763499687cd372cf4fb33555554b"), looks := true }, kinds := [], alts := [], laidByText := true, laidKinds := [.data, .data, .data], laidTests := true, laidLooks := .later }
def FnEpochDigestCardSaid : Prop := Claim7.holds Tryd.pinned (.plain (OpenSpec.ofChange fnEpochDigestSpec)) fnEpochDigestCard

/-- THE TIED CARD OF 'laws.FnChainEmpty'. -/
def fnChainEmptyCard : Claim7 := { stood := { row := fnChainEmptyRow, standIns := [], harness := (true, "7c27fbddc26bc66827f67970ed8930365ea3763499687cd372cf4fb33555554b"), looks := true }, kinds := [], alts := [], laidByText := true, laidKinds := [.data, .data, .data], laidTests := true, laidLooks := .later }
def FnChainEmptyCardSaid : Prop := Claim7.holds Tryd.pinned (.plain (OpenSpec.ofChange fnChainEmptySpec)) fnChainEmptyCard

/-- THE TIED CARD OF 'laws.FnChainLength'. -/
def fnChainLengthCard : Claim7 := { stood := { row := fnChainLengthRow, standIns := [], harness := (true, "7c27fbddc26bc66827f67970ed8930365ea3763499687cd372cf4fb33555554b"), looks := true }, kinds := [], alts := [], laidByText := true, laidKinds := [.data, .data, .data], laidTests := true, laidLooks := .later }
def FnChainLengthCardSaid : Prop := Claim7.holds Tryd.pinned (.plain (OpenSpec.ofChange fnChainLengthSpec)) fnChainLengthCard

/-- THE TIED CARD OF 'laws.FnChainLinks'. -/
def fnChainLinksCard : Claim7 := { stood := { row := fnChainLinksRow, standIns := [], harness := (true, "7c27fbddc26bc66827f67970ed8930365ea3763499687cd372cf4fb33555554b"), looks := true }, kinds := [], alts := [], laidByText := true, laidKinds := [.data, .data, .data], laidTests := true, laidLooks := .later }
def FnChainLinksCardSaid : Prop := Claim7.holds Tryd.pinned (.plain (OpenSpec.ofChange fnChainLinksSpec)) fnChainLinksCard

/-- THE TIED CARD OF 'laws.FnChainOmit'. -/
def fnChainOmitCard : Claim7 := { stood := { row := fnChainOmitRow, standIns := [], harness := (true, "7c27fbddc26bc66827f67970ed8930365ea3763499687cd372cf4fb33555554b"), looks := true }, kinds := [], alts := [], laidByText := true, laidKinds := [.data, .data, .data], laidTests := true, laidLooks := .later }
def FnChainOmitCardSaid : Prop := Claim7.holds Tryd.pinned (.plain (OpenSpec.ofChange fnChainOmitSpec)) fnChainOmitCard

/-- THE TIED CARD OF 'laws.FnChainParts'. -/
def fnChainPartsCard : Claim7 := { stood := { row := fnChainPartsRow, standIns := [], harness := (true, "7c27fbddc26bc66827f67970ed8930365ea3763499687cd372cf4fb33555554b"), looks := true }, kinds := [], alts := [], laidByText := true, laidKinds := [.data, .data, .data], laidTests := true, laidLooks := .later }
def FnChainPartsCardSaid : Prop := Claim7.holds Tryd.pinned (.plain (OpenSpec.ofChange fnChainPartsSpec)) fnChainPartsCard

/-- THE SECOND FORM's CARD OF 'laws.FnExactEpochDigest'. -/
def fnExactEpochDigestUptoCard : Claim7 := { stood := { row := fnExactEpochDigestUptoRow, standIns := [], harness := (true, "7c27fbddc26bc66827f67970ed8930365ea3763499687cd372cf4fb33555554b"), looks := true }, kinds := [], alts := [], laidByText := true, laidKinds := [.data, .data, .data], laidTests := true, laidLooks := .later }
def FnExactEpochDigestUptoCardSaid : Prop := Claim7.holds Tryd.pinned (.plain (OpenSpec.upto fnExactEpochDigestSpec)) fnExactEpochDigestUptoCard

/-- THE SECOND FORM's CARD OF 'laws.FnEpochDigest'. -/
def fnEpochDigestUptoCard : Claim7 := { stood := { row := fnEpochDigestUptoRow, standIns := [], harness := (true, "7c27fbddc26bc66827f67970ed8930365ea3763499687cd372cf4fb33555554b"), looks := true }, kinds := [], alts := [], laidByText := true, laidKinds := [.data, .data, .data], laidTests := true, laidLooks := .later }
def FnEpochDigestUptoCardSaid : Prop := Claim7.holds Tryd.pinned (.plain (OpenSpec.upto fnEpochDigestSpec)) fnEpochDigestUptoCard

/-- THE SECOND FORM's CARD OF 'laws.FnChainEmpty'. -/
def fnChainEmptyUptoCard : Claim7 := { stood := { row := fnChainEmptyUptoRow, standIns := [], harness := (true, "7c27fbddc26bc66827f67970ed8930365ea3763499687cd372cf4fb33555554b"), looks := true }, kinds := [], alts := [], laidByText := true, laidKinds := [.data, .data, .data], laidTests := true, laidLooks := .later }
def FnChainEmptyUptoCardSaid : Prop := Claim7.holds Tryd.pinned (.plain (OpenSpec.upto fnChainEmptySpec)) fnChainEmptyUptoCard

/-- THE SECOND FORM's CARD OF 'laws.FnChainLength'. -/
def fnChainLengthUptoCard : Claim7 := { stood := { row := fnChainLengthUptoRow, standIns := [], harness := (true, "7c27fbddc26bc66827f67970ed8930365ea3763499687cd372cf4fb33555554b"), looks := true }, kinds := [], alts := [], laidByText := true, laidKinds := [.data, .data, .data], laidTests := true, laidLooks := .later }
def FnChainLengthUptoCardSaid : Prop := Claim7.holds Tryd.pinned (.plain (OpenSpec.upto fnChainLengthSpec)) fnChainLengthUptoCard

/-- THE SECOND FORM's CARD OF 'laws.FnChainLinks'. -/
def fnChainLinksUptoCard : Claim7 := { stood := { row := fnChainLinksUptoRow, standIns := [], harness := (true, "7c27fbddc26bc66827f67970ed8930365ea3763499687cd372cf4fb33555554b"), looks := true }, kinds := [], alts := [], laidByText := true, laidKinds := [.data, .data, .data], laidTests := true, laidLooks := .later }
def FnChainLinksUptoCardSaid : Prop := Claim7.holds Tryd.pinned (.plain (OpenSpec.upto fnChainLinksSpec)) fnChainLinksUptoCard

/-- THE SECOND FORM's CARD OF 'laws.FnChainOmit'. -/
def fnChainOmitUptoCard : Claim7 := { stood := { row := fnChainOmitUptoRow, standIns := [], harness := (true, "7c27fbddc26bc66827f67970ed8930365ea3763499687cd372cf4fb33555554b"), looks := true }, kinds := [], alts := [], laidByText := true, laidKinds := [.data, .data, .data], laidTests := true, laidLooks := .later }
def FnChainOmitUptoCardSaid : Prop := Claim7.holds Tryd.pinned (.plain (OpenSpec.upto fnChainOmitSpec)) fnChainOmitUptoCard

/-- THE SECOND FORM's CARD OF 'laws.FnChainParts'. -/
def fnChainPartsUptoCard : Claim7 := { stood := { row := fnChainPartsUptoRow, standIns := [], harness := (true, "7c27fbddc26bc66827f67970ed8930365ea3763499687cd372cf4fb33555554b"), looks := true }, kinds := [], alts := [], laidByText := true, laidKinds := [.data, .data, .data], laidTests := true, laidLooks := .later }
def FnChainPartsUptoCardSaid : Prop := Claim7.holds Tryd.pinned (.plain (OpenSpec.upto fnChainPartsSpec)) fnChainPartsUptoCard
end Rows
end Go.Proofs.YtpbpabhkkfgheaaDoor
