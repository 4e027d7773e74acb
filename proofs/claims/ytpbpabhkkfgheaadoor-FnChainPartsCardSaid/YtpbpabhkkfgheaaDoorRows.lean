/-
  NARROWER THAN 'FOR EVERY INPUT', by the rows' own cells (each row's printed sentence says how): FnExactEpochDigest: laid · FnEpochDigest: laid · FnChainEmpty: laid · FnChainLength: laid · FnChainLinks: laid · FnChainOmit: laid · FnChainParts: laid.
  DERIVED. THE GIVEN ROWS OF THIS SEAT. 7 by the template 'for every input the law returns true; each argument reads behind the call as it read before'; 0 by the template 'total and deterministic' (their statements: YtpbpabhkkfgheaaDoorTotals.lean).
  GIVEN WITH THE SEED: the statements are not yours to turn. If you find one false, say at which input.
  Laid BY PROGRAM, IN A SANDBOX (cutbox-rows.mjs): the forced cells as the released guide's own fill.sh prints them over the translation 715a632dcc4642e1… (all of the seat's roots in one cut). By AI agents, Wed Nov 11 2026. No macro, syntax, notation, axiom, sorry.
-/
import Derived.Test.YtpbpabhkkfgheaaDoorChecked
import GoSem.Claim
import GoSem.ClaimJoined
import GoSem.ClaimMapViews
import Derived.JoinedTies
import Derived.KernelRfl
namespace Go.Proofs.YtpbpabhkkfgheaaDoor
/- THE CELL 'sum', in the pinned program and in every row, IS THE sha256 OF THE DUMP (.gsa) THAT YtpbpabhkkfgheaaDoorProg.lean LOADS. Nothing in Lean hashes anything: it is a label: what it is worth is what the hold of that sum in a sandbox is worth. -/
noncomputable def Tryd.pinned : Pinned := { name := "ytpbpabhkkfgheaadoor", sum := "715a632dcc4642e1b7185fe5780d95b3737b6b9287284481b965315e51e50b09", checked := Tryd.checked }
namespace Rows
def none {H : Type} : Left H := { results := [], args := [] }

/- WHAT THE LISTED PACKAGE-LEVEL VARIABLES READ AS WHEN THE CALL BEGINS. Each datum BY PROGRAM (the guide's laid-datum.mjs) off the statement by which the dump's own 'gosem.cut.vars' lays the variable. In a bare row this is a premise. The card (YtpbpabhkkfgheaaDoorCards.lean) ties it to the program's text. -/
def laid_math_bits_deBruijn32tab {H : Type} : DataW H := .agg [.lit (.int .u8 0), .lit (.int .u8 1), .lit (.int .u8 28), .lit (.int .u8 2), .lit (.int .u8 29), .lit (.int .u8 14), .lit (.int .u8 24), .lit (.int .u8 3), .lit (.int .u8 30), .lit (.int .u8 22), .lit (.int .u8 20), .lit (.int .u8 15), .lit (.int .u8 25), .lit (.int .u8 17), .lit (.int .u8 4), .lit (.int .u8 8), .lit (.int .u8 31), .lit (.int .u8 27), .lit (.int .u8 13), .lit (.int .u8 23), .lit (.int .u8 21), .lit (.int .u8 19), .lit (.int .u8 16), .lit (.int .u8 7), .lit (.int .u8 26), .lit (.int .u8 12), .lit (.int .u8 18), .lit (.int .u8 6), .lit (.int .u8 11), .lit (.int .u8 5), .lit (.int .u8 10), .lit (.int .u8 9)]
def laid_math_bits_deBruijn64tab {H : Type} : DataW H := .agg [.lit (.int .u8 0), .lit (.int .u8 1), .lit (.int .u8 56), .lit (.int .u8 2), .lit (.int .u8 57), .lit (.int .u8 49), .lit (.int .u8 28), .lit (.int .u8 3), .lit (.int .u8 61), .lit (.int .u8 58), .lit (.int .u8 42), .lit (.int .u8 50), .lit (.int .u8 38), .lit (.int .u8 29), .lit (.int .u8 17), .lit (.int .u8 4), .lit (.int .u8 62), .lit (.int .u8 47), .lit (.int .u8 59), .lit (.int .u8 36), .lit (.int .u8 45), .lit (.int .u8 43), .lit (.int .u8 51), .lit (.int .u8 22), .lit (.int .u8 53), .lit (.int .u8 39), .lit (.int .u8 33), .lit (.int .u8 30), .lit (.int .u8 24), .lit (.int .u8 18), .lit (.int .u8 12), .lit (.int .u8 5), .lit (.int .u8 63), .lit (.int .u8 55), .lit (.int .u8 48), .lit (.int .u8 27), .lit (.int .u8 60), .lit (.int .u8 41), .lit (.int .u8 37), .lit (.int .u8 16), .lit (.int .u8 46), .lit (.int .u8 35), .lit (.int .u8 44), .lit (.int .u8 21), .lit (.int .u8 52), .lit (.int .u8 32), .lit (.int .u8 23), .lit (.int .u8 11), .lit (.int .u8 54), .lit (.int .u8 26), .lit (.int .u8 40), .lit (.int .u8 15), .lit (.int .u8 34), .lit (.int .u8 20), .lit (.int .u8 31), .lit (.int .u8 10), .lit (.int .u8 25), .lit (.int .u8 14), .lit (.int .u8 19), .lit (.int .u8 9), .lit (.int .u8 13), .lit (.int .u8 8), .lit (.int .u8 7), .lit (.int .u8 6)]
def laid_internal_strconv_uint64pow10 {H : Type} : DataW H := .agg [.lit (.int .u64 1), .lit (.int .u64 10), .lit (.int .u64 100), .lit (.int .u64 1000), .lit (.int .u64 10000), .lit (.int .u64 100000), .lit (.int .u64 1000000), .lit (.int .u64 10000000), .lit (.int .u64 100000000), .lit (.int .u64 1000000000), .lit (.int .u64 10000000000), .lit (.int .u64 100000000000), .lit (.int .u64 1000000000000), .lit (.int .u64 10000000000000), .lit (.int .u64 100000000000000), .lit (.int .u64 1000000000000000), .lit (.int .u64 10000000000000000), .lit (.int .u64 100000000000000000), .lit (.int .u64 1000000000000000000), .lit (.int .u64 10000000000000000000)]

/-- 'laws.FnExactEpochDigest': WHATEVER THE INPUT: true; the input reads as it did. -/
def fnExactEpochDigestSpec : ChangeSpec := { name := "fnExactEpochDigest", fn := fun _ => fun
  | [d] => { results := [.lit (.bool true)], args := [d] }
  | _ => none }
def fnExactEpochDigestRow : OpenClaim := { program := "ytpbpabhkkfgheaadoor", sum := "715a632dcc4642e1b7185fe5780d95b3737b6b9287284481b965315e51e50b09", func := "loop.example/dagconsensus/laws.FnExactEpochDigest", spec := "fnExactEpochDigest", inPlace := ["internal/abi.NoEscape"], recurses := true, named := ["internal/strconv.uint64pow10", "math/bits.deBruijn32tab", "math/bits.deBruijn64tab"], apart := false, laid := [("math/bits.deBruijn32tab", laid_math_bits_deBruijn32tab), ("math/bits.deBruijn64tab", laid_math_bits_deBruijn64tab), ("internal/strconv.uint64pow10", laid_internal_strconv_uint64pow10)] }
def FnExactEpochDigestSaid : Prop := fnExactEpochDigestRow.holds Tryd.pinned (OpenSpec.ofChange fnExactEpochDigestSpec)

/-- ITS FALSE NEIGHBOUR: 'it returns false'. Refute it at one input. -/
def fnExactEpochDigestWrong : ChangeSpec := { name := "fnExactEpochDigest", fn := fun _ => fun
  | [d] => { results := [.lit (.bool false)], args := [d] }
  | _ => none }
def FnExactEpochDigestWrongFalsely : Prop := fnExactEpochDigestRow.holds Tryd.pinned (OpenSpec.ofChange fnExactEpochDigestWrong)

/-- 'laws.FnEpochDigest': WHATEVER THE INPUT: true; the input reads as it did. -/
def fnEpochDigestSpec : ChangeSpec := { name := "fnEpochDigest", fn := fun _ => fun
  | [d] => { results := [.lit (.bool true)], args := [d] }
  | _ => none }
def fnEpochDigestRow : OpenClaim := { program := "ytpbpabhkkfgheaadoor", sum := "715a632dcc4642e1b7185fe5780d95b3737b6b9287284481b965315e51e50b09", func := "loop.example/dagconsensus/laws.FnEpochDigest", spec := "fnEpochDigest", inPlace := ["internal/abi.NoEscape"], recurses := true, named := ["internal/strconv.uint64pow10", "math/bits.deBruijn32tab", "math/bits.deBruijn64tab"], apart := false, laid := [("math/bits.deBruijn32tab", laid_math_bits_deBruijn32tab), ("math/bits.deBruijn64tab", laid_math_bits_deBruijn64tab), ("internal/strconv.uint64pow10", laid_internal_strconv_uint64pow10)] }
def FnEpochDigestSaid : Prop := fnEpochDigestRow.holds Tryd.pinned (OpenSpec.ofChange fnEpochDigestSpec)

/-- ITS FALSE NEIGHBOUR: 'it returns false'. Refute it at one input. -/
def fnEpochDigestWrong : ChangeSpec := { name := "fnEpochDigest", fn := fun _ => fun
  | [d] => { results := [.lit (.bool false)], args := [d] }
  | _ => none }
def FnEpochDigestWrongFalsely : Prop := fnEpochDigestRow.holds Tryd.pinned (OpenSpec.ofChange fnEpochDigestWrong)

/-- 'laws.FnChainEmpty': WHATEVER THE INPUT: true; the input reads as it did. -/
def fnChainEmptySpec : ChangeSpec := { name := "fnChainEmpty", fn := fun _ => fun
  | [d] => { results := [.lit (.bool true)], args := [d] }
  | _ => none }
def fnChainEmptyRow : OpenClaim := { program := "ytpbpabhkkfgheaadoor", sum := "715a632dcc4642e1b7185fe5780d95b3737b6b9287284481b965315e51e50b09", func := "loop.example/dagconsensus/laws.FnChainEmpty", spec := "fnChainEmpty", inPlace := ["internal/abi.NoEscape"], recurses := true, named := ["internal/strconv.uint64pow10", "math/bits.deBruijn32tab", "math/bits.deBruijn64tab"], apart := false, laid := [("math/bits.deBruijn32tab", laid_math_bits_deBruijn32tab), ("math/bits.deBruijn64tab", laid_math_bits_deBruijn64tab), ("internal/strconv.uint64pow10", laid_internal_strconv_uint64pow10)] }
def FnChainEmptySaid : Prop := fnChainEmptyRow.holds Tryd.pinned (OpenSpec.ofChange fnChainEmptySpec)

/-- ITS FALSE NEIGHBOUR: 'it returns false'. Refute it at one input. -/
def fnChainEmptyWrong : ChangeSpec := { name := "fnChainEmpty", fn := fun _ => fun
  | [d] => { results := [.lit (.bool false)], args := [d] }
  | _ => none }
def FnChainEmptyWrongFalsely : Prop := fnChainEmptyRow.holds Tryd.pinned (OpenSpec.ofChange fnChainEmptyWrong)

/-- 'laws.FnChainLength': WHATEVER THE INPUT: true; the input reads as it did. -/
def fnChainLengthSpec : ChangeSpec := { name := "fnChainLength", fn := fun _ => fun
  | [d] => { results := [.lit (.bool true)], args := [d] }
  | _ => none }
def fnChainLengthRow : OpenClaim := { program := "ytpbpabhkkfgheaadoor", sum := "715a632dcc4642e1b7185fe5780d95b3737b6b9287284481b965315e51e50b09", func := "loop.example/dagconsensus/laws.FnChainLength", spec := "fnChainLength", inPlace := ["internal/abi.NoEscape"], recurses := true, named := ["internal/strconv.uint64pow10", "math/bits.deBruijn32tab", "math/bits.deBruijn64tab"], apart := false, laid := [("math/bits.deBruijn32tab", laid_math_bits_deBruijn32tab), ("math/bits.deBruijn64tab", laid_math_bits_deBruijn64tab), ("internal/strconv.uint64pow10", laid_internal_strconv_uint64pow10)] }
def FnChainLengthSaid : Prop := fnChainLengthRow.holds Tryd.pinned (OpenSpec.ofChange fnChainLengthSpec)

/-- ITS FALSE NEIGHBOUR: 'it returns false'. Refute it at one input. -/
def fnChainLengthWrong : ChangeSpec := { name := "fnChainLength", fn := fun _ => fun
  | [d] => { results := [.lit (.bool false)], args := [d] }
  | _ => none }
def FnChainLengthWrongFalsely : Prop := fnChainLengthRow.holds Tryd.pinned (OpenSpec.ofChange fnChainLengthWrong)

/-- 'laws.FnChainLinks': WHATEVER THE INPUT: true; the input reads as it did. -/
def fnChainLinksSpec : ChangeSpec := { name := "fnChainLinks", fn := fun _ => fun
  | [d] => { results := [.lit (.bool true)], args := [d] }
  | _ => none }
def fnChainLinksRow : OpenClaim := { program := "ytpbpabhkkfgheaadoor", sum := "715a632dcc4642e1b7185fe5780d95b3737b6b9287284481b965315e51e50b09", func := "loop.example/dagconsensus/laws.FnChainLinks", spec := "fnChainLinks", inPlace := ["internal/abi.NoEscape"], recurses := true, named := ["internal/strconv.uint64pow10", "math/bits.deBruijn32tab", "math/bits.deBruijn64tab"], apart := false, laid := [("math/bits.deBruijn32tab", laid_math_bits_deBruijn32tab), ("math/bits.deBruijn64tab", laid_math_bits_deBruijn64tab), ("internal/strconv.uint64pow10", laid_internal_strconv_uint64pow10)] }
def FnChainLinksSaid : Prop := fnChainLinksRow.holds Tryd.pinned (OpenSpec.ofChange fnChainLinksSpec)

/-- ITS FALSE NEIGHBOUR: 'it returns false'. Refute it at one input. -/
def fnChainLinksWrong : ChangeSpec := { name := "fnChainLinks", fn := fun _ => fun
  | [d] => { results := [.lit (.bool false)], args := [d] }
  | _ => none }
def FnChainLinksWrongFalsely : Prop := fnChainLinksRow.holds Tryd.pinned (OpenSpec.ofChange fnChainLinksWrong)

/-- 'laws.FnChainOmit': WHATEVER THE INPUT: true; the input reads as it did. -/
def fnChainOmitSpec : ChangeSpec := { name := "fnChainOmit", fn := fun _ => fun
  | [d1, d2] => { results := [.lit (.bool true)], args := [d1, d2] }
  | _ => none }
def fnChainOmitRow : OpenClaim := { program := "ytpbpabhkkfgheaadoor", sum := "715a632dcc4642e1b7185fe5780d95b3737b6b9287284481b965315e51e50b09", func := "loop.example/dagconsensus/laws.FnChainOmit", spec := "fnChainOmit", inPlace := ["internal/abi.NoEscape"], recurses := true, named := ["internal/strconv.uint64pow10", "math/bits.deBruijn32tab", "math/bits.deBruijn64tab"], apart := false, laid := [("math/bits.deBruijn32tab", laid_math_bits_deBruijn32tab), ("math/bits.deBruijn64tab", laid_math_bits_deBruijn64tab), ("internal/strconv.uint64pow10", laid_internal_strconv_uint64pow10)] }
def FnChainOmitSaid : Prop := fnChainOmitRow.holds Tryd.pinned (OpenSpec.ofChange fnChainOmitSpec)

/-- ITS FALSE NEIGHBOUR: 'it returns false'. Refute it at one input. -/
def fnChainOmitWrong : ChangeSpec := { name := "fnChainOmit", fn := fun _ => fun
  | [d1, d2] => { results := [.lit (.bool false)], args := [d1, d2] }
  | _ => none }
def FnChainOmitWrongFalsely : Prop := fnChainOmitRow.holds Tryd.pinned (OpenSpec.ofChange fnChainOmitWrong)

/-- 'laws.FnChainParts': WHATEVER THE INPUT: true; the input reads as it did. -/
def fnChainPartsSpec : ChangeSpec := { name := "fnChainParts", fn := fun _ => fun
  | [d1, d2] => { results := [.lit (.bool true)], args := [d1, d2] }
  | _ => none }
def fnChainPartsRow : OpenClaim := { program := "ytpbpabhkkfgheaadoor", sum := "715a632dcc4642e1b7185fe5780d95b3737b6b9287284481b965315e51e50b09", func := "loop.example/dagconsensus/laws.FnChainParts", spec := "fnChainParts", inPlace := ["internal/abi.NoEscape"], recurses := true, named := ["internal/strconv.uint64pow10", "math/bits.deBruijn32tab", "math/bits.deBruijn64tab"], apart := false, laid := [("math/bits.deBruijn32tab", laid_math_bits_deBruijn32tab), ("math/bits.deBruijn64tab", laid_math_bits_deBruijn64tab), ("internal/strconv.uint64pow10", laid_internal_strconv_uint64pow10)] }
def FnChainPartsSaid : Prop := fnChainPartsRow.holds Tryd.pinned (OpenSpec.ofChange fnChainPartsSpec)

/-- ITS FALSE NEIGHBOUR: 'it returns false'. Refute it at one input. -/
def fnChainPartsWrong : ChangeSpec := { name := "fnChainParts", fn := fun _ => fun
  | [d1, d2] => { results := [.lit (.bool false)], args := [d1, d2] }
  | _ => none }
def FnChainPartsWrongFalsely : Prop := fnChainPartsRow.holds Tryd.pinned (OpenSpec.ofChange fnChainPartsWrong)

/- THE SECOND FORM. 'bulk': how many values and letters a reading holds, each counted each time it is reached (what is shared counts as often as it is met; a slice's spare places count too). A statement '..UptoSaid' is the law's where the arguments, and the package variables that the reading takes, are together of bulk at most 1048576: NARROWER than '..Said'. Prove '..Said' where nothing that the law and all that it calls make is longer than what came in: it says more and counts as full. Else prove '..UptoSaid'. A law counts once. -/
mutual
def uptoBulk {H : Type} : DataW H → Nat
  | .lit (.string bytes) => bytes.length + 1
  | .lit _ => 1
  | .nil => 1
  | .ptr d => uptoBulk d + 1
  | .slice elems spare => uptoBulkAll elems + uptoBulkAll spare + 1
  | .agg parts => uptoBulkAll parts + 1
  | .iface _ d => uptoBulk d + 1
  | .map entries => uptoBulkEntries entries + 1
  | .held _ => 1
def uptoBulkAll {H : Type} : List (DataW H) → Nat
  | [] => 0
  | d :: r => uptoBulk d + uptoBulkAll r
def uptoBulkEntries {H : Type} : List (Lit × DataW H) → Nat
  | [] => 0
  | x :: r => uptoBulkEntry x + uptoBulkEntries r
def uptoBulkEntry {H : Type} : Lit × DataW H → Nat
  | (.string bytes, d) => bytes.length + uptoBulk d + 1
  | (_, d) => uptoBulk d + 1
 end
def uptoSmall : (H : Type) → List (DataW H) → Bool := fun _ ds => decide (uptoBulkAll ds ≤ 1048576)
def OpenSpec.upto (s : _root_.Go.ChangeSpec) : _root_.Go.OpenSpec := { _root_.Go.OpenSpec.ofChange s with cond := some uptoSmall }

/-- 'laws.FnExactEpochDigest', WHERE WHAT IT READS IS OF BULK AT MOST 1048576: true; the input reads as it did. -/
def fnExactEpochDigestUptoRow : OpenClaim := { program := "ytpbpabhkkfgheaadoor", sum := "715a632dcc4642e1b7185fe5780d95b3737b6b9287284481b965315e51e50b09", func := "loop.example/dagconsensus/laws.FnExactEpochDigest", spec := "fnExactEpochDigest", inPlace := ["internal/abi.NoEscape"], recurses := true, named := ["internal/strconv.uint64pow10", "math/bits.deBruijn32tab", "math/bits.deBruijn64tab"], apart := false, laid := [("math/bits.deBruijn32tab", laid_math_bits_deBruijn32tab), ("math/bits.deBruijn64tab", laid_math_bits_deBruijn64tab), ("internal/strconv.uint64pow10", laid_internal_strconv_uint64pow10)], narrowed := true }
def FnExactEpochDigestUptoSaid : Prop := fnExactEpochDigestUptoRow.holds Tryd.pinned (OpenSpec.upto fnExactEpochDigestSpec)

/-- 'laws.FnEpochDigest', WHERE WHAT IT READS IS OF BULK AT MOST 1048576: true; the input reads as it did. -/
def fnEpochDigestUptoRow : OpenClaim := { program := "ytpbpabhkkfgheaadoor", sum := "715a632dcc4642e1b7185fe5780d95b3737b6b9287284481b965315e51e50b09", func := "loop.example/dagconsensus/laws.FnEpochDigest", spec := "fnEpochDigest", inPlace := ["internal/abi.NoEscape"], recurses := true, named := ["internal/strconv.uint64pow10", "math/bits.deBruijn32tab", "math/bits.deBruijn64tab"], apart := false, laid := [("math/bits.deBruijn32tab", laid_math_bits_deBruijn32tab), ("math/bits.deBruijn64tab", laid_math_bits_deBruijn64tab), ("internal/strconv.uint64pow10", laid_internal_strconv_uint64pow10)], narrowed := true }
def FnEpochDigestUptoSaid : Prop := fnEpochDigestUptoRow.holds Tryd.pinned (OpenSpec.upto fnEpochDigestSpec)

/-- 'laws.FnChainEmpty', WHERE WHAT IT READS IS OF BULK AT MOST 1048576: true; the input reads as it did. -/
def fnChainEmptyUptoRow : OpenClaim := { program := "ytpbpabhkkfgheaadoor", sum := "715a632dcc4642e1b7185fe5780d95b3737b6b9287284481b965315e51e50b09", func := "loop.example/dagconsensus/laws.FnChainEmpty", spec := "fnChainEmpty", inPlace := ["internal/abi.NoEscape"], recurses := true, named := ["internal/strconv.uint64pow10", "math/bits.deBruijn32tab", "math/bits.deBruijn64tab"], apart := false, laid := [("math/bits.deBruijn32tab", laid_math_bits_deBruijn32tab), ("math/bits.deBruijn64tab", laid_math_bits_deBruijn64tab), ("internal/strconv.uint64pow10", laid_internal_strconv_uint64pow10)], narrowed := true }
def FnChainEmptyUptoSaid : Prop := fnChainEmptyUptoRow.holds Tryd.pinned (OpenSpec.upto fnChainEmptySpec)

/-- 'laws.FnChainLength', WHERE WHAT IT READS IS OF BULK AT MOST 1048576: true; the input reads as it did. -/
def fnChainLengthUptoRow : OpenClaim := { program := "ytpbpabhkkfgheaadoor", sum := "715a632dcc4642e1b7185fe5780d95b3737b6b9287284481b965315e51e50b09", func := "loop.example/dagconsensus/laws.FnChainLength", spec := "fnChainLength", inPlace := ["internal/abi.NoEscape"], recurses := true, named := ["internal/strconv.uint64pow10", "math/bits.deBruijn32tab", "math/bits.deBruijn64tab"], apart := false, laid := [("math/bits.deBruijn32tab", laid_math_bits_deBruijn32tab), ("math/bits.deBruijn64tab", laid_math_bits_deBruijn64tab), ("internal/strconv.uint64pow10", laid_internal_strconv_uint64pow10)], narrowed := true }
def FnChainLengthUptoSaid : Prop := fnChainLengthUptoRow.holds Tryd.pinned (OpenSpec.upto fnChainLengthSpec)

/-- 'laws.FnChainLinks', WHERE WHAT IT READS IS OF BULK AT MOST 1048576: true; the input reads as it did. -/
def fnChainLinksUptoRow : OpenClaim := { program := "ytpbpabhkkfgheaadoor", sum := "715a632dcc4642e1b7185fe5780d95b3737b6b9287284481b965315e51e50b09", func := "loop.example/dagconsensus/laws.FnChainLinks", spec := "fnChainLinks", inPlace := ["internal/abi.NoEscape"], recurses := true, named := ["internal/strconv.uint64pow10", "math/bits.deBruijn32tab", "math/bits.deBruijn64tab"], apart := false, laid := [("math/bits.deBruijn32tab", laid_math_bits_deBruijn32tab), ("math/bits.deBruijn64tab", laid_math_bits_deBruijn64tab), ("internal/strconv.uint64pow10", laid_internal_strconv_uint64pow10)], narrowed := true }
def FnChainLinksUptoSaid : Prop := fnChainLinksUptoRow.holds Tryd.pinned (OpenSpec.upto fnChainLinksSpec)

/-- 'laws.FnChainOmit', WHERE WHAT IT READS IS OF BULK AT MOST 1048576: true; the input reads as it did. -/
def fnChainOmitUptoRow : OpenClaim := { program := "ytpbpabhkkfgheaadoor", sum := "715a632dcc4642e1b7185fe5780d95b3737b6b9287284481b965315e51e50b09", func := "loop.example/dagconsensus/laws.FnChainOmit", spec := "fnChainOmit", inPlace := ["internal/abi.NoEscape"], recurses := true, named := ["internal/strconv.uint64pow10", "math/bits.deBruijn32tab", "math/bits.deBruijn64tab"], apart := false, laid := [("math/bits.deBruijn32tab", laid_math_bits_deBruijn32tab), ("math/bits.deBruijn64tab", laid_math_bits_deBruijn64tab), ("internal/strconv.uint64pow10", laid_internal_strconv_uint64pow10)], narrowed := true }
def FnChainOmitUptoSaid : Prop := fnChainOmitUptoRow.holds Tryd.pinned (OpenSpec.upto fnChainOmitSpec)

/-- 'laws.FnChainParts', WHERE WHAT IT READS IS OF BULK AT MOST 1048576: true; the input reads as it did. -/
def fnChainPartsUptoRow : OpenClaim := { program := "ytpbpabhkkfgheaadoor", sum := "715a632dcc4642e1b7185fe5780d95b3737b6b9287284481b965315e51e50b09", func := "loop.example/dagconsensus/laws.FnChainParts", spec := "fnChainParts", inPlace := ["internal/abi.NoEscape"], recurses := true, named := ["internal/strconv.uint64pow10", "math/bits.deBruijn32tab", "math/bits.deBruijn64tab"], apart := false, laid := [("math/bits.deBruijn32tab", laid_math_bits_deBruijn32tab), ("math/bits.deBruijn64tab", laid_math_bits_deBruijn64tab), ("internal/strconv.uint64pow10", laid_internal_strconv_uint64pow10)], narrowed := true }
def FnChainPartsUptoSaid : Prop := fnChainPartsUptoRow.holds Tryd.pinned (OpenSpec.upto fnChainPartsSpec)

end Rows
end Go.Proofs.YtpbpabhkkfgheaaDoor
