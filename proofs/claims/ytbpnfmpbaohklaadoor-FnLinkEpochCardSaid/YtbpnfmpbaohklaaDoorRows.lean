/-
  NARROWER THAN 'FOR EVERY INPUT', by the rows' own cells (each row's printed sentence says how): FnExactLinkCheck: laid · FnExactLightFork: laid · FnExactLinkMake: laid · FnLightForkMembers: laid · FnLightFork: laid · FnLinkQuorum: laid · FnLinkEpoch: laid · FnLinkRoundTrip: laid · FnExactChainCheck: laid.
  DERIVED. THE GIVEN ROWS OF THIS SEAT. 9 by the template 'for every input the law returns true; each argument reads behind the call as it read before'; 0 by the template 'total and deterministic' (their statements: YtbpnfmpbaohklaaDoorTotals.lean).
  GIVEN WITH THE SEED: the statements are not yours to turn. If you find one false, say at which input.
  Laid BY PROGRAM, IN A SANDBOX (cutbox-rows.mjs): the forced cells as the released guide's own fill.sh prints them over the translation 6f30dc831958dc1e… (all of the seat's roots in one cut). By AI agents, Wed Nov 11 2026. No macro, syntax, notation, axiom, sorry.
-/
import Derived.Test.YtbpnfmpbaohklaaDoorChecked
import GoSem.Claim
import GoSem.ClaimJoined
import GoSem.ClaimMapViews
import Derived.JoinedTies
import Derived.KernelRfl
namespace Go.Proofs.YtbpnfmpbaohklaaDoor
/- THE CELL 'sum', in the pinned program and in every row, IS THE sha256 OF THE DUMP (.gsa) THAT YtbpnfmpbaohklaaDoorProg.lean LOADS. Nothing in Lean hashes anything: it is a label: what it is worth is what the hold of that sum in a sandbox is worth. -/
noncomputable def Tryd.pinned : Pinned := { name := "ytbpnfmpbaohklaadoor", sum := "6f30dc831958dc1e901290902590918f55f0fb84a6591fb2c192aa65c4975d11", checked := Tryd.checked }
namespace Rows
def none {H : Type} : Left H := { results := [], args := [] }

/- WHAT THE LISTED PACKAGE-LEVEL VARIABLES READ AS WHEN THE CALL BEGINS. Each datum BY PROGRAM (the guide's laid-datum.mjs) off the statement by which the dump's own 'gosem.cut.vars' lays the variable. In a bare row this is a premise. The card (YtbpnfmpbaohklaaDoorCards.lean) ties it to the program's text. -/
def laid_math_bits_deBruijn32tab {H : Type} : DataW H := .agg [.lit (.int .u8 0), .lit (.int .u8 1), .lit (.int .u8 28), .lit (.int .u8 2), .lit (.int .u8 29), .lit (.int .u8 14), .lit (.int .u8 24), .lit (.int .u8 3), .lit (.int .u8 30), .lit (.int .u8 22), .lit (.int .u8 20), .lit (.int .u8 15), .lit (.int .u8 25), .lit (.int .u8 17), .lit (.int .u8 4), .lit (.int .u8 8), .lit (.int .u8 31), .lit (.int .u8 27), .lit (.int .u8 13), .lit (.int .u8 23), .lit (.int .u8 21), .lit (.int .u8 19), .lit (.int .u8 16), .lit (.int .u8 7), .lit (.int .u8 26), .lit (.int .u8 12), .lit (.int .u8 18), .lit (.int .u8 6), .lit (.int .u8 11), .lit (.int .u8 5), .lit (.int .u8 10), .lit (.int .u8 9)]
def laid_math_bits_deBruijn64tab {H : Type} : DataW H := .agg [.lit (.int .u8 0), .lit (.int .u8 1), .lit (.int .u8 56), .lit (.int .u8 2), .lit (.int .u8 57), .lit (.int .u8 49), .lit (.int .u8 28), .lit (.int .u8 3), .lit (.int .u8 61), .lit (.int .u8 58), .lit (.int .u8 42), .lit (.int .u8 50), .lit (.int .u8 38), .lit (.int .u8 29), .lit (.int .u8 17), .lit (.int .u8 4), .lit (.int .u8 62), .lit (.int .u8 47), .lit (.int .u8 59), .lit (.int .u8 36), .lit (.int .u8 45), .lit (.int .u8 43), .lit (.int .u8 51), .lit (.int .u8 22), .lit (.int .u8 53), .lit (.int .u8 39), .lit (.int .u8 33), .lit (.int .u8 30), .lit (.int .u8 24), .lit (.int .u8 18), .lit (.int .u8 12), .lit (.int .u8 5), .lit (.int .u8 63), .lit (.int .u8 55), .lit (.int .u8 48), .lit (.int .u8 27), .lit (.int .u8 60), .lit (.int .u8 41), .lit (.int .u8 37), .lit (.int .u8 16), .lit (.int .u8 46), .lit (.int .u8 35), .lit (.int .u8 44), .lit (.int .u8 21), .lit (.int .u8 52), .lit (.int .u8 32), .lit (.int .u8 23), .lit (.int .u8 11), .lit (.int .u8 54), .lit (.int .u8 26), .lit (.int .u8 40), .lit (.int .u8 15), .lit (.int .u8 34), .lit (.int .u8 20), .lit (.int .u8 31), .lit (.int .u8 10), .lit (.int .u8 25), .lit (.int .u8 14), .lit (.int .u8 19), .lit (.int .u8 9), .lit (.int .u8 13), .lit (.int .u8 8), .lit (.int .u8 7), .lit (.int .u8 6)]
def laid_internal_strconv_uint64pow10 {H : Type} : DataW H := .agg [.lit (.int .u64 1), .lit (.int .u64 10), .lit (.int .u64 100), .lit (.int .u64 1000), .lit (.int .u64 10000), .lit (.int .u64 100000), .lit (.int .u64 1000000), .lit (.int .u64 10000000), .lit (.int .u64 100000000), .lit (.int .u64 1000000000), .lit (.int .u64 10000000000), .lit (.int .u64 100000000000), .lit (.int .u64 1000000000000), .lit (.int .u64 10000000000000), .lit (.int .u64 100000000000000), .lit (.int .u64 1000000000000000), .lit (.int .u64 10000000000000000), .lit (.int .u64 100000000000000000), .lit (.int .u64 1000000000000000000), .lit (.int .u64 10000000000000000000)]

/-- 'laws.FnExactLinkCheck': WHATEVER THE INPUT: true; the input reads as it did. -/
def fnExactLinkCheckSpec : ChangeSpec := { name := "fnExactLinkCheck", fn := fun _ => fun
  | [d1, d2] => { results := [.lit (.bool true)], args := [d1, d2] }
  | _ => none }
def fnExactLinkCheckRow : OpenClaim := { program := "ytbpnfmpbaohklaadoor", sum := "6f30dc831958dc1e901290902590918f55f0fb84a6591fb2c192aa65c4975d11", func := "loop.example/dagconsensus/laws.FnExactLinkCheck", spec := "fnExactLinkCheck", inPlace := ["internal/abi.NoEscape"], recurses := true, named := ["internal/strconv.uint64pow10", "math/bits.deBruijn32tab", "math/bits.deBruijn64tab"], apart := false, laid := [("math/bits.deBruijn32tab", laid_math_bits_deBruijn32tab), ("math/bits.deBruijn64tab", laid_math_bits_deBruijn64tab), ("internal/strconv.uint64pow10", laid_internal_strconv_uint64pow10)] }
def FnExactLinkCheckSaid : Prop := fnExactLinkCheckRow.holds Tryd.pinned (OpenSpec.ofChange fnExactLinkCheckSpec)

/-- ITS FALSE NEIGHBOUR: 'it returns false'. Refute it at one input. -/
def fnExactLinkCheckWrong : ChangeSpec := { name := "fnExactLinkCheck", fn := fun _ => fun
  | [d1, d2] => { results := [.lit (.bool false)], args := [d1, d2] }
  | _ => none }
def FnExactLinkCheckWrongFalsely : Prop := fnExactLinkCheckRow.holds Tryd.pinned (OpenSpec.ofChange fnExactLinkCheckWrong)

/-- 'laws.FnExactLightFork': WHATEVER THE INPUT: true; the input reads as it did. -/
def fnExactLightForkSpec : ChangeSpec := { name := "fnExactLightFork", fn := fun _ => fun
  | [d1, d2, d3] => { results := [.lit (.bool true)], args := [d1, d2, d3] }
  | _ => none }
def fnExactLightForkRow : OpenClaim := { program := "ytbpnfmpbaohklaadoor", sum := "6f30dc831958dc1e901290902590918f55f0fb84a6591fb2c192aa65c4975d11", func := "loop.example/dagconsensus/laws.FnExactLightFork", spec := "fnExactLightFork", inPlace := ["internal/abi.NoEscape"], recurses := true, named := ["internal/strconv.uint64pow10", "math/bits.deBruijn32tab", "math/bits.deBruijn64tab"], apart := false, laid := [("math/bits.deBruijn32tab", laid_math_bits_deBruijn32tab), ("math/bits.deBruijn64tab", laid_math_bits_deBruijn64tab), ("internal/strconv.uint64pow10", laid_internal_strconv_uint64pow10)] }
def FnExactLightForkSaid : Prop := fnExactLightForkRow.holds Tryd.pinned (OpenSpec.ofChange fnExactLightForkSpec)

/-- ITS FALSE NEIGHBOUR: 'it returns false'. Refute it at one input. -/
def fnExactLightForkWrong : ChangeSpec := { name := "fnExactLightFork", fn := fun _ => fun
  | [d1, d2, d3] => { results := [.lit (.bool false)], args := [d1, d2, d3] }
  | _ => none }
def FnExactLightForkWrongFalsely : Prop := fnExactLightForkRow.holds Tryd.pinned (OpenSpec.ofChange fnExactLightForkWrong)

/-- 'laws.FnExactLinkMake': WHATEVER THE INPUT: true; the input reads as it did. -/
def fnExactLinkMakeSpec : ChangeSpec := { name := "fnExactLinkMake", fn := fun _ => fun
  | [d1, d2, d3] => { results := [.lit (.bool true)], args := [d1, d2, d3] }
  | _ => none }
def fnExactLinkMakeRow : OpenClaim := { program := "ytbpnfmpbaohklaadoor", sum := "6f30dc831958dc1e901290902590918f55f0fb84a6591fb2c192aa65c4975d11", func := "loop.example/dagconsensus/laws.FnExactLinkMake", spec := "fnExactLinkMake", inPlace := ["internal/abi.NoEscape"], recurses := true, named := ["internal/strconv.uint64pow10", "math/bits.deBruijn32tab", "math/bits.deBruijn64tab"], apart := false, laid := [("math/bits.deBruijn32tab", laid_math_bits_deBruijn32tab), ("math/bits.deBruijn64tab", laid_math_bits_deBruijn64tab), ("internal/strconv.uint64pow10", laid_internal_strconv_uint64pow10)] }
def FnExactLinkMakeSaid : Prop := fnExactLinkMakeRow.holds Tryd.pinned (OpenSpec.ofChange fnExactLinkMakeSpec)

/-- ITS FALSE NEIGHBOUR: 'it returns false'. Refute it at one input. -/
def fnExactLinkMakeWrong : ChangeSpec := { name := "fnExactLinkMake", fn := fun _ => fun
  | [d1, d2, d3] => { results := [.lit (.bool false)], args := [d1, d2, d3] }
  | _ => none }
def FnExactLinkMakeWrongFalsely : Prop := fnExactLinkMakeRow.holds Tryd.pinned (OpenSpec.ofChange fnExactLinkMakeWrong)

/-- 'laws.FnLightForkMembers': WHATEVER THE INPUT: true; the input reads as it did. -/
def fnLightForkMembersSpec : ChangeSpec := { name := "fnLightForkMembers", fn := fun _ => fun
  | [d] => { results := [.lit (.bool true)], args := [d] }
  | _ => none }
def fnLightForkMembersRow : OpenClaim := { program := "ytbpnfmpbaohklaadoor", sum := "6f30dc831958dc1e901290902590918f55f0fb84a6591fb2c192aa65c4975d11", func := "loop.example/dagconsensus/laws.FnLightForkMembers", spec := "fnLightForkMembers", inPlace := ["internal/abi.NoEscape"], recurses := true, named := ["internal/strconv.uint64pow10", "math/bits.deBruijn32tab", "math/bits.deBruijn64tab"], apart := false, laid := [("math/bits.deBruijn32tab", laid_math_bits_deBruijn32tab), ("math/bits.deBruijn64tab", laid_math_bits_deBruijn64tab), ("internal/strconv.uint64pow10", laid_internal_strconv_uint64pow10)] }
def FnLightForkMembersSaid : Prop := fnLightForkMembersRow.holds Tryd.pinned (OpenSpec.ofChange fnLightForkMembersSpec)

/-- ITS FALSE NEIGHBOUR: 'it returns false'. Refute it at one input. -/
def fnLightForkMembersWrong : ChangeSpec := { name := "fnLightForkMembers", fn := fun _ => fun
  | [d] => { results := [.lit (.bool false)], args := [d] }
  | _ => none }
def FnLightForkMembersWrongFalsely : Prop := fnLightForkMembersRow.holds Tryd.pinned (OpenSpec.ofChange fnLightForkMembersWrong)

/-- 'laws.FnLightFork': WHATEVER THE INPUT: true; the input reads as it did. -/
def fnLightForkSpec : ChangeSpec := { name := "fnLightFork", fn := fun _ => fun
  | [d] => { results := [.lit (.bool true)], args := [d] }
  | _ => none }
def fnLightForkRow : OpenClaim := { program := "ytbpnfmpbaohklaadoor", sum := "6f30dc831958dc1e901290902590918f55f0fb84a6591fb2c192aa65c4975d11", func := "loop.example/dagconsensus/laws.FnLightFork", spec := "fnLightFork", inPlace := ["internal/abi.NoEscape"], recurses := true, named := ["internal/strconv.uint64pow10", "math/bits.deBruijn32tab", "math/bits.deBruijn64tab"], apart := false, laid := [("math/bits.deBruijn32tab", laid_math_bits_deBruijn32tab), ("math/bits.deBruijn64tab", laid_math_bits_deBruijn64tab), ("internal/strconv.uint64pow10", laid_internal_strconv_uint64pow10)] }
def FnLightForkSaid : Prop := fnLightForkRow.holds Tryd.pinned (OpenSpec.ofChange fnLightForkSpec)

/-- ITS FALSE NEIGHBOUR: 'it returns false'. Refute it at one input. -/
def fnLightForkWrong : ChangeSpec := { name := "fnLightFork", fn := fun _ => fun
  | [d] => { results := [.lit (.bool false)], args := [d] }
  | _ => none }
def FnLightForkWrongFalsely : Prop := fnLightForkRow.holds Tryd.pinned (OpenSpec.ofChange fnLightForkWrong)

/-- 'laws.FnLinkQuorum': WHATEVER THE INPUT: true; the input reads as it did. -/
def fnLinkQuorumSpec : ChangeSpec := { name := "fnLinkQuorum", fn := fun _ => fun
  | [d] => { results := [.lit (.bool true)], args := [d] }
  | _ => none }
def fnLinkQuorumRow : OpenClaim := { program := "ytbpnfmpbaohklaadoor", sum := "6f30dc831958dc1e901290902590918f55f0fb84a6591fb2c192aa65c4975d11", func := "loop.example/dagconsensus/laws.FnLinkQuorum", spec := "fnLinkQuorum", inPlace := ["internal/abi.NoEscape"], recurses := true, named := ["internal/strconv.uint64pow10", "math/bits.deBruijn32tab", "math/bits.deBruijn64tab"], apart := false, laid := [("math/bits.deBruijn32tab", laid_math_bits_deBruijn32tab), ("math/bits.deBruijn64tab", laid_math_bits_deBruijn64tab), ("internal/strconv.uint64pow10", laid_internal_strconv_uint64pow10)] }
def FnLinkQuorumSaid : Prop := fnLinkQuorumRow.holds Tryd.pinned (OpenSpec.ofChange fnLinkQuorumSpec)

/-- ITS FALSE NEIGHBOUR: 'it returns false'. Refute it at one input. -/
def fnLinkQuorumWrong : ChangeSpec := { name := "fnLinkQuorum", fn := fun _ => fun
  | [d] => { results := [.lit (.bool false)], args := [d] }
  | _ => none }
def FnLinkQuorumWrongFalsely : Prop := fnLinkQuorumRow.holds Tryd.pinned (OpenSpec.ofChange fnLinkQuorumWrong)

/-- 'laws.FnLinkEpoch': WHATEVER THE INPUT: true; the input reads as it did. -/
def fnLinkEpochSpec : ChangeSpec := { name := "fnLinkEpoch", fn := fun _ => fun
  | [d1, d2] => { results := [.lit (.bool true)], args := [d1, d2] }
  | _ => none }
def fnLinkEpochRow : OpenClaim := { program := "ytbpnfmpbaohklaadoor", sum := "6f30dc831958dc1e901290902590918f55f0fb84a6591fb2c192aa65c4975d11", func := "loop.example/dagconsensus/laws.FnLinkEpoch", spec := "fnLinkEpoch", inPlace := ["internal/abi.NoEscape"], recurses := true, named := ["internal/strconv.uint64pow10", "math/bits.deBruijn32tab", "math/bits.deBruijn64tab"], apart := false, laid := [("math/bits.deBruijn32tab", laid_math_bits_deBruijn32tab), ("math/bits.deBruijn64tab", laid_math_bits_deBruijn64tab), ("internal/strconv.uint64pow10", laid_internal_strconv_uint64pow10)] }
def FnLinkEpochSaid : Prop := fnLinkEpochRow.holds Tryd.pinned (OpenSpec.ofChange fnLinkEpochSpec)

/-- ITS FALSE NEIGHBOUR: 'it returns false'. Refute it at one input. -/
def fnLinkEpochWrong : ChangeSpec := { name := "fnLinkEpoch", fn := fun _ => fun
  | [d1, d2] => { results := [.lit (.bool false)], args := [d1, d2] }
  | _ => none }
def FnLinkEpochWrongFalsely : Prop := fnLinkEpochRow.holds Tryd.pinned (OpenSpec.ofChange fnLinkEpochWrong)

/-- 'laws.FnLinkRoundTrip': WHATEVER THE INPUT: true; the input reads as it did. -/
def fnLinkRoundTripSpec : ChangeSpec := { name := "fnLinkRoundTrip", fn := fun _ => fun
  | [d] => { results := [.lit (.bool true)], args := [d] }
  | _ => none }
def fnLinkRoundTripRow : OpenClaim := { program := "ytbpnfmpbaohklaadoor", sum := "6f30dc831958dc1e901290902590918f55f0fb84a6591fb2c192aa65c4975d11", func := "loop.example/dagconsensus/laws.FnLinkRoundTrip", spec := "fnLinkRoundTrip", inPlace := ["internal/abi.NoEscape"], recurses := true, named := ["internal/strconv.uint64pow10", "math/bits.deBruijn32tab", "math/bits.deBruijn64tab"], apart := false, laid := [("math/bits.deBruijn32tab", laid_math_bits_deBruijn32tab), ("math/bits.deBruijn64tab", laid_math_bits_deBruijn64tab), ("internal/strconv.uint64pow10", laid_internal_strconv_uint64pow10)] }
def FnLinkRoundTripSaid : Prop := fnLinkRoundTripRow.holds Tryd.pinned (OpenSpec.ofChange fnLinkRoundTripSpec)

/-- ITS FALSE NEIGHBOUR: 'it returns false'. Refute it at one input. -/
def fnLinkRoundTripWrong : ChangeSpec := { name := "fnLinkRoundTrip", fn := fun _ => fun
  | [d] => { results := [.lit (.bool false)], args := [d] }
  | _ => none }
def FnLinkRoundTripWrongFalsely : Prop := fnLinkRoundTripRow.holds Tryd.pinned (OpenSpec.ofChange fnLinkRoundTripWrong)

/-- 'laws.FnExactChainCheck': WHATEVER THE INPUT: true; the input reads as it did. -/
def fnExactChainCheckSpec : ChangeSpec := { name := "fnExactChainCheck", fn := fun _ => fun
  | [d1, d2] => { results := [.lit (.bool true)], args := [d1, d2] }
  | _ => none }
def fnExactChainCheckRow : OpenClaim := { program := "ytbpnfmpbaohklaadoor", sum := "6f30dc831958dc1e901290902590918f55f0fb84a6591fb2c192aa65c4975d11", func := "loop.example/dagconsensus/laws.FnExactChainCheck", spec := "fnExactChainCheck", inPlace := ["internal/abi.NoEscape"], recurses := true, named := ["internal/strconv.uint64pow10", "math/bits.deBruijn32tab", "math/bits.deBruijn64tab"], apart := false, laid := [("math/bits.deBruijn32tab", laid_math_bits_deBruijn32tab), ("math/bits.deBruijn64tab", laid_math_bits_deBruijn64tab), ("internal/strconv.uint64pow10", laid_internal_strconv_uint64pow10)] }
def FnExactChainCheckSaid : Prop := fnExactChainCheckRow.holds Tryd.pinned (OpenSpec.ofChange fnExactChainCheckSpec)

/-- ITS FALSE NEIGHBOUR: 'it returns false'. Refute it at one input. -/
def fnExactChainCheckWrong : ChangeSpec := { name := "fnExactChainCheck", fn := fun _ => fun
  | [d1, d2] => { results := [.lit (.bool false)], args := [d1, d2] }
  | _ => none }
def FnExactChainCheckWrongFalsely : Prop := fnExactChainCheckRow.holds Tryd.pinned (OpenSpec.ofChange fnExactChainCheckWrong)

/- THE SECOND FORM. 'bulk': how many values and letters a reading holds, each counted each time it is reached (what is shared counts as often as it is met; a slice's spare places count too). A statement '..UptoSaid' is the law's where the arguments, and the package variables that the reading takes, are together of bulk at most 1048576: NARROWER than '..Said'. Prove '..Said' where nothing that the law and all that it calls make is longer than what came in: it says more and counts as full. Else prove '..UptoSaid'. A law counts once. -/
mutual
def uptoBulk {H : Type} : DataW H → Nat
  | .lit (.string bytes) => bytes.length + 1
  | .lit _ => 1
  | .nil => 1
  | .ptr d => uptoBulk d + 1
  | .slice elems spare => uptoBulkAll elems + uptoBulkAll spare + 1
  | .agg parts => uptoBulkAll parts + 1
  | .iface _ d => uptoBulk d + 1
  | .map entries => uptoBulkEntries entries + 1
  | .held _ => 1
def uptoBulkAll {H : Type} : List (DataW H) → Nat
  | [] => 0
  | d :: r => uptoBulk d + uptoBulkAll r
def uptoBulkEntries {H : Type} : List (Lit × DataW H) → Nat
  | [] => 0
  | x :: r => uptoBulkEntry x + uptoBulkEntries r
def uptoBulkEntry {H : Type} : Lit × DataW H → Nat
  | (.string bytes, d) => bytes.length + uptoBulk d + 1
  | (_, d) => uptoBulk d + 1
 end
def uptoSmall : (H : Type) → List (DataW H) → Bool := fun _ ds => decide (uptoBulkAll ds ≤ 1048576)
def OpenSpec.upto (s : _root_.Go.ChangeSpec) : _root_.Go.OpenSpec := { _root_.Go.OpenSpec.ofChange s with cond := some uptoSmall }

/-- 'laws.FnExactLinkCheck', WHERE WHAT IT READS IS OF BULK AT MOST 1048576: true; the input reads as it did. -/
def fnExactLinkCheckUptoRow : OpenClaim := { program := "ytbpnfmpbaohklaadoor", sum := "6f30dc831958dc1e901290902590918f55f0fb84a6591fb2c192aa65c4975d11", func := "loop.example/dagconsensus/laws.FnExactLinkCheck", spec := "fnExactLinkCheck", inPlace := ["internal/abi.NoEscape"], recurses := true, named := ["internal/strconv.uint64pow10", "math/bits.deBruijn32tab", "math/bits.deBruijn64tab"], apart := false, laid := [("math/bits.deBruijn32tab", laid_math_bits_deBruijn32tab), ("math/bits.deBruijn64tab", laid_math_bits_deBruijn64tab), ("internal/strconv.uint64pow10", laid_internal_strconv_uint64pow10)], narrowed := true }
def FnExactLinkCheckUptoSaid : Prop := fnExactLinkCheckUptoRow.holds Tryd.pinned (OpenSpec.upto fnExactLinkCheckSpec)

/-- 'laws.FnExactLightFork', WHERE WHAT IT READS IS OF BULK AT MOST 1048576: true; the input reads as it did. -/
def fnExactLightForkUptoRow : OpenClaim := { program := "ytbpnfmpbaohklaadoor", sum := "6f30dc831958dc1e901290902590918f55f0fb84a6591fb2c192aa65c4975d11", func := "loop.example/dagconsensus/laws.FnExactLightFork", spec := "fnExactLightFork", inPlace := ["internal/abi.NoEscape"], recurses := true, named := ["internal/strconv.uint64pow10", "math/bits.deBruijn32tab", "math/bits.deBruijn64tab"], apart := false, laid := [("math/bits.deBruijn32tab", laid_math_bits_deBruijn32tab), ("math/bits.deBruijn64tab", laid_math_bits_deBruijn64tab), ("internal/strconv.uint64pow10", laid_internal_strconv_uint64pow10)], narrowed := true }
def FnExactLightForkUptoSaid : Prop := fnExactLightForkUptoRow.holds Tryd.pinned (OpenSpec.upto fnExactLightForkSpec)

/-- 'laws.FnExactLinkMake', WHERE WHAT IT READS IS OF BULK AT MOST 1048576: true; the input reads as it did. -/
def fnExactLinkMakeUptoRow : OpenClaim := { program := "ytbpnfmpbaohklaadoor", sum := "6f30dc831958dc1e901290902590918f55f0fb84a6591fb2c192aa65c4975d11", func := "loop.example/dagconsensus/laws.FnExactLinkMake", spec := "fnExactLinkMake", inPlace := ["internal/abi.NoEscape"], recurses := true, named := ["internal/strconv.uint64pow10", "math/bits.deBruijn32tab", "math/bits.deBruijn64tab"], apart := false, laid := [("math/bits.deBruijn32tab", laid_math_bits_deBruijn32tab), ("math/bits.deBruijn64tab", laid_math_bits_deBruijn64tab), ("internal/strconv.uint64pow10", laid_internal_strconv_uint64pow10)], narrowed := true }
def FnExactLinkMakeUptoSaid : Prop := fnExactLinkMakeUptoRow.holds Tryd.pinned (OpenSpec.upto fnExactLinkMakeSpec)

/-- 'laws.FnLightForkMembers', WHERE WHAT IT READS IS OF BULK AT MOST 1048576: true; the input reads as it did. -/
def fnLightForkMembersUptoRow : OpenClaim := { program := "ytbpnfmpbaohklaadoor", sum := "6f30dc831958dc1e901290902590918f55f0fb84a6591fb2c192aa65c4975d11", func := "loop.example/dagconsensus/laws.FnLightForkMembers", spec := "fnLightForkMembers", inPlace := ["internal/abi.NoEscape"], recurses := true, named := ["internal/strconv.uint64pow10", "math/bits.deBruijn32tab", "math/bits.deBruijn64tab"], apart := false, laid := [("math/bits.deBruijn32tab", laid_math_bits_deBruijn32tab), ("math/bits.deBruijn64tab", laid_math_bits_deBruijn64tab), ("internal/strconv.uint64pow10", laid_internal_strconv_uint64pow10)], narrowed := true }
def FnLightForkMembersUptoSaid : Prop := fnLightForkMembersUptoRow.holds Tryd.pinned (OpenSpec.upto fnLightForkMembersSpec)

/-- 'laws.FnLightFork', WHERE WHAT IT READS IS OF BULK AT MOST 1048576: true; the input reads as it did. -/
def fnLightForkUptoRow : OpenClaim := { program := "ytbpnfmpbaohklaadoor", sum := "6f30dc831958dc1e901290902590918f55f0fb84a6591fb2c192aa65c4975d11", func := "loop.example/dagconsensus/laws.FnLightFork", spec := "fnLightFork", inPlace := ["internal/abi.NoEscape"], recurses := true, named := ["internal/strconv.uint64pow10", "math/bits.deBruijn32tab", "math/bits.deBruijn64tab"], apart := false, laid := [("math/bits.deBruijn32tab", laid_math_bits_deBruijn32tab), ("math/bits.deBruijn64tab", laid_math_bits_deBruijn64tab), ("internal/strconv.uint64pow10", laid_internal_strconv_uint64pow10)], narrowed := true }
def FnLightForkUptoSaid : Prop := fnLightForkUptoRow.holds Tryd.pinned (OpenSpec.upto fnLightForkSpec)

/-- 'laws.FnLinkQuorum', WHERE WHAT IT READS IS OF BULK AT MOST 1048576: true; the input reads as it did. -/
def fnLinkQuorumUptoRow : OpenClaim := { program := "ytbpnfmpbaohklaadoor", sum := "6f30dc831958dc1e901290902590918f55f0fb84a6591fb2c192aa65c4975d11", func := "loop.example/dagconsensus/laws.FnLinkQuorum", spec := "fnLinkQuorum", inPlace := ["internal/abi.NoEscape"], recurses := true, named := ["internal/strconv.uint64pow10", "math/bits.deBruijn32tab", "math/bits.deBruijn64tab"], apart := false, laid := [("math/bits.deBruijn32tab", laid_math_bits_deBruijn32tab), ("math/bits.deBruijn64tab", laid_math_bits_deBruijn64tab), ("internal/strconv.uint64pow10", laid_internal_strconv_uint64pow10)], narrowed := true }
def FnLinkQuorumUptoSaid : Prop := fnLinkQuorumUptoRow.holds Tryd.pinned (OpenSpec.upto fnLinkQuorumSpec)

/-- 'laws.FnLinkEpoch', WHERE WHAT IT READS IS OF BULK AT MOST 1048576: true; the input reads as it did. -/
def fnLinkEpochUptoRow : OpenClaim := { program := "ytbpnfmpbaohklaadoor", sum := "6f30dc831958dc1e901290902590918f55f0fb84a6591fb2c192aa65c4975d11", func := "loop.example/dagconsensus/laws.FnLinkEpoch", spec := "fnLinkEpoch", inPlace := ["internal/abi.NoEscape"], recurses := true, named := ["internal/strconv.uint64pow10", "math/bits.deBruijn32tab", "math/bits.deBruijn64tab"], apart := false, laid := [("math/bits.deBruijn32tab", laid_math_bits_deBruijn32tab), ("math/bits.deBruijn64tab", laid_math_bits_deBruijn64tab), ("internal/strconv.uint64pow10", laid_internal_strconv_uint64pow10)], narrowed := true }
def FnLinkEpochUptoSaid : Prop := fnLinkEpochUptoRow.holds Tryd.pinned (OpenSpec.upto fnLinkEpochSpec)

/-- 'laws.FnLinkRoundTrip', WHERE WHAT IT READS IS OF BULK AT MOST 1048576: true; the input reads as it did. -/
def fnLinkRoundTripUptoRow : OpenClaim := { program := "ytbpnfmpbaohklaadoor", sum := "6f30dc831958dc1e901290902590918f55f0fb84a6591fb2c192aa65c4975d11", func := "loop.example/dagconsensus/laws.FnLinkRoundTrip", spec := "fnLinkRoundTrip", inPlace := ["internal/abi.NoEscape"], recurses := true, named := ["internal/strconv.uint64pow10", "math/bits.deBruijn32tab", "math/bits.deBruijn64tab"], apart := false, laid := [("math/bits.deBruijn32tab", laid_math_bits_deBruijn32tab), ("math/bits.deBruijn64tab", laid_math_bits_deBruijn64tab), ("internal/strconv.uint64pow10", laid_internal_strconv_uint64pow10)], narrowed := true }
def FnLinkRoundTripUptoSaid : Prop := fnLinkRoundTripUptoRow.holds Tryd.pinned (OpenSpec.upto fnLinkRoundTripSpec)

/-- 'laws.FnExactChainCheck', WHERE WHAT IT READS IS OF BULK AT MOST 1048576: true; the input reads as it did. -/
def fnExactChainCheckUptoRow : OpenClaim := { program := "ytbpnfmpbaohklaadoor", sum := "6f30dc831958dc1e901290902590918f55f0fb84a6591fb2c192aa65c4975d11", func := "loop.example/dagconsensus/laws.FnExactChainCheck", spec := "fnExactChainCheck", inPlace := ["internal/abi.NoEscape"], recurses := true, named := ["internal/strconv.uint64pow10", "math/bits.deBruijn32tab", "math/bits.deBruijn64tab"], apart := false, laid := [("math/bits.deBruijn32tab", laid_math_bits_deBruijn32tab), ("math/bits.deBruijn64tab", laid_math_bits_deBruijn64tab), ("internal/strconv.uint64pow10", laid_internal_strconv_uint64pow10)], narrowed := true }
def FnExactChainCheckUptoSaid : Prop := fnExactChainCheckUptoRow.holds Tryd.pinned (OpenSpec.upto fnExactChainCheckSpec)

end Rows
end Go.Proofs.YtbpnfmpbaohklaaDoor
