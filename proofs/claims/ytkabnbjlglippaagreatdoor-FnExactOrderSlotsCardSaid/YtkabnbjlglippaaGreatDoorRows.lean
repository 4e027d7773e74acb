/-
  NARROWER THAN 'FOR EVERY INPUT', by the rows' own cells (each row's printed sentence says how): FnExactOrderDigests: ifaces, laid · FnExactOrderSlots: ifaces, laid · FnOrderLeaders: ifaces, laid · FnOrderWaves: ifaces, laid · FnOrderQuorum: ifaces, laid · FnOrderCausal: ifaces, laid · FnOrderOnce: ifaces, laid · FnOrderWave: ifaces, laid · FnOrderDigests: ifaces, laid · FnOrderPast: ifaces, laid · FnOrderAgree: ifaces, laid · FnOrderGrow: ifaces, laid.
  DERIVED. THE GIVEN ROWS OF THIS SEAT. 12 by the template 'for every input the law returns true; each argument reads behind the call as it read before'; 0 by the template 'total and deterministic' (their statements: YtkabnbjlglippaaGreatDoorTotals.lean).
  GIVEN WITH THE SEED: the statements are not yours to turn. If you find one false, say at which input.
  Laid BY PROGRAM, IN A SANDBOX (cutbox-rows.mjs): the forced cells as the released guide's own fill.sh prints them over the translation c919f4ae0bbe7e55… (all of the seat's roots in one cut). By AI agents, Wed Nov 11 2026. No macro, syntax, notation, axiom, sorry.
-/
import Derived.Test.YtkabnbjlglippaaGreatDoorChecked
import GoSem.Claim
import GoSem.ClaimJoined
import GoSem.ClaimMapViews
import Derived.JoinedTies
import Derived.KernelRfl
namespace Go.Proofs.YtkabnbjlglippaaGreatDoor
/- THE CELL 'sum', in the pinned program and in every row, IS THE sha256 OF THE DUMP (.gsa) THAT YtkabnbjlglippaaGreatDoorProg.lean LOADS. Nothing in Lean hashes anything: it is a label: what it is worth is what the hold of that sum in a sandbox is worth. -/
noncomputable def Tryz.pinned : Pinned := { name := "ytkabnbjlglippaagreatdoor", sum := "c919f4ae0bbe7e551d25cc42ded44b927bc4957cf560bce7e880be9f453cdf2b", checked := Tryz.checked }
namespace Rows
def none {H : Type} : Left H := { results := [], args := [] }

/- WHAT THE LISTED PACKAGE-LEVEL VARIABLES READ AS WHEN THE CALL BEGINS. Each datum BY PROGRAM (the guide's laid-datum.mjs) off the statement by which the dump's own 'gosem.cut.vars' lays the variable. In a bare row this is a premise. The card (YtkabnbjlglippaaGreatDoorCards.lean) ties it to the program's text. -/
def laid_loop_example_dagconsensus_impl_errInvalid {H : Type} : DataW H := .iface "*errors.errorString" (.ptr (.agg [.lit (.string [116, 104, 101, 32, 103, 114, 97, 112, 104, 32, 111, 114, 32, 116, 104, 101, 32, 108, 101, 97, 100, 101, 114, 115, 32, 97, 114, 101, 32, 105, 110, 118, 97, 108, 105, 100])]))
def laid_loop_example_dagconsensus_impl_errNoWave {H : Type} : DataW H := .iface "*errors.errorString" (.ptr (.agg [.lit (.string [116, 104, 101, 114, 101, 32, 105, 115, 32, 110, 111, 32, 115, 117, 99, 104, 32, 119, 97, 118, 101])]))
def laid_loop_example_dagconsensus_impl_errNoVertex {H : Type} : DataW H := .iface "*errors.errorString" (.ptr (.agg [.lit (.string [116, 104, 101, 32, 108, 101, 97, 100, 101, 114, 32, 104, 97, 115, 32, 110, 111, 32, 118, 101, 114, 116, 101, 120, 32, 105, 110, 32, 116, 104, 105, 115, 32, 119, 97, 118, 101])]))

/-- 'laws.FnExactOrderDigests': WHATEVER THE INPUT: true; the input reads as it did. -/
def fnExactOrderDigestsSpec : ChangeSpec := { name := "fnExactOrderDigests", vars := ["loop.example/dagconsensus/impl.errInvalid", "loop.example/dagconsensus/impl.errNoWave", "loop.example/dagconsensus/impl.errNoVertex"], fn := fun _ => fun
  | [d1, d2, d3, g1, g2, g3] => { results := [.lit (.bool true)], args := [d1, d2, d3], vars := [g1, g2, g3] }
  | _ => none }
def fnExactOrderDigestsRow : OpenClaim := { program := "ytkabnbjlglippaagreatdoor", sum := "c919f4ae0bbe7e551d25cc42ded44b927bc4957cf560bce7e880be9f453cdf2b", func := "loop.example/dagconsensus/laws.FnExactOrderDigests", spec := "fnExactOrderDigests", inPlace := ["internal/reflectlite.TypeOf"], unfollowed := true, recurses := true, named := ["loop.example/dagconsensus/impl.errInvalid", "loop.example/dagconsensus/impl.errNoWave", "loop.example/dagconsensus/impl.errNoVertex"], ifaces := true, apart := false, laid := [("loop.example/dagconsensus/impl.errInvalid", laid_loop_example_dagconsensus_impl_errInvalid), ("loop.example/dagconsensus/impl.errNoWave", laid_loop_example_dagconsensus_impl_errNoWave), ("loop.example/dagconsensus/impl.errNoVertex", laid_loop_example_dagconsensus_impl_errNoVertex)] }
def FnExactOrderDigestsSaid : Prop := fnExactOrderDigestsRow.holds Tryz.pinned (OpenSpec.ofChange fnExactOrderDigestsSpec)

/-- ITS FALSE NEIGHBOUR: 'it returns false'. Refute it at one input. -/
def fnExactOrderDigestsWrong : ChangeSpec := { name := "fnExactOrderDigests", vars := ["loop.example/dagconsensus/impl.errInvalid", "loop.example/dagconsensus/impl.errNoWave", "loop.example/dagconsensus/impl.errNoVertex"], fn := fun _ => fun
  | [d1, d2, d3, g1, g2, g3] => { results := [.lit (.bool false)], args := [d1, d2, d3], vars := [g1, g2, g3] }
  | _ => none }
def FnExactOrderDigestsWrongFalsely : Prop := fnExactOrderDigestsRow.holds Tryz.pinned (OpenSpec.ofChange fnExactOrderDigestsWrong)

/-- 'laws.FnExactOrderSlots': WHATEVER THE INPUT: true; the input reads as it did. -/
def fnExactOrderSlotsSpec : ChangeSpec := { name := "fnExactOrderSlots", vars := ["loop.example/dagconsensus/impl.errInvalid", "loop.example/dagconsensus/impl.errNoWave", "loop.example/dagconsensus/impl.errNoVertex"], fn := fun _ => fun
  | [d1, d2, d3, g1, g2, g3] => { results := [.lit (.bool true)], args := [d1, d2, d3], vars := [g1, g2, g3] }
  | _ => none }
def fnExactOrderSlotsRow : OpenClaim := { program := "ytkabnbjlglippaagreatdoor", sum := "c919f4ae0bbe7e551d25cc42ded44b927bc4957cf560bce7e880be9f453cdf2b", func := "loop.example/dagconsensus/laws.FnExactOrderSlots", spec := "fnExactOrderSlots", inPlace := ["internal/reflectlite.TypeOf"], unfollowed := true, recurses := true, named := ["loop.example/dagconsensus/impl.errInvalid", "loop.example/dagconsensus/impl.errNoWave", "loop.example/dagconsensus/impl.errNoVertex"], ifaces := true, apart := false, laid := [("loop.example/dagconsensus/impl.errInvalid", laid_loop_example_dagconsensus_impl_errInvalid), ("loop.example/dagconsensus/impl.errNoWave", laid_loop_example_dagconsensus_impl_errNoWave), ("loop.example/dagconsensus/impl.errNoVertex", laid_loop_example_dagconsensus_impl_errNoVertex)] }
def FnExactOrderSlotsSaid : Prop := fnExactOrderSlotsRow.holds Tryz.pinned (OpenSpec.ofChange fnExactOrderSlotsSpec)

/-- ITS FALSE NEIGHBOUR: 'it returns false'. Refute it at one input. -/
def fnExactOrderSlotsWrong : ChangeSpec := { name := "fnExactOrderSlots", vars := ["loop.example/dagconsensus/impl.errInvalid", "loop.example/dagconsensus/impl.errNoWave", "loop.example/dagconsensus/impl.errNoVertex"], fn := fun _ => fun
  | [d1, d2, d3, g1, g2, g3] => { results := [.lit (.bool false)], args := [d1, d2, d3], vars := [g1, g2, g3] }
  | _ => none }
def FnExactOrderSlotsWrongFalsely : Prop := fnExactOrderSlotsRow.holds Tryz.pinned (OpenSpec.ofChange fnExactOrderSlotsWrong)

/-- 'laws.FnOrderLeaders': WHATEVER THE INPUT: true; the input reads as it did. -/
def fnOrderLeadersSpec : ChangeSpec := { name := "fnOrderLeaders", vars := ["loop.example/dagconsensus/impl.errInvalid", "loop.example/dagconsensus/impl.errNoWave", "loop.example/dagconsensus/impl.errNoVertex"], fn := fun _ => fun
  | [d, g1, g2, g3] => { results := [.lit (.bool true)], args := [d], vars := [g1, g2, g3] }
  | _ => none }
def fnOrderLeadersRow : OpenClaim := { program := "ytkabnbjlglippaagreatdoor", sum := "c919f4ae0bbe7e551d25cc42ded44b927bc4957cf560bce7e880be9f453cdf2b", func := "loop.example/dagconsensus/laws.FnOrderLeaders", spec := "fnOrderLeaders", inPlace := ["internal/reflectlite.TypeOf"], unfollowed := true, recurses := true, named := ["loop.example/dagconsensus/impl.errInvalid", "loop.example/dagconsensus/impl.errNoWave", "loop.example/dagconsensus/impl.errNoVertex"], ifaces := true, apart := false, laid := [("loop.example/dagconsensus/impl.errInvalid", laid_loop_example_dagconsensus_impl_errInvalid), ("loop.example/dagconsensus/impl.errNoWave", laid_loop_example_dagconsensus_impl_errNoWave), ("loop.example/dagconsensus/impl.errNoVertex", laid_loop_example_dagconsensus_impl_errNoVertex)] }
def FnOrderLeadersSaid : Prop := fnOrderLeadersRow.holds Tryz.pinned (OpenSpec.ofChange fnOrderLeadersSpec)

/-- ITS FALSE NEIGHBOUR: 'it returns false'. Refute it at one input. -/
def fnOrderLeadersWrong : ChangeSpec := { name := "fnOrderLeaders", vars := ["loop.example/dagconsensus/impl.errInvalid", "loop.example/dagconsensus/impl.errNoWave", "loop.example/dagconsensus/impl.errNoVertex"], fn := fun _ => fun
  | [d, g1, g2, g3] => { results := [.lit (.bool false)], args := [d], vars := [g1, g2, g3] }
  | _ => none }
def FnOrderLeadersWrongFalsely : Prop := fnOrderLeadersRow.holds Tryz.pinned (OpenSpec.ofChange fnOrderLeadersWrong)

/-- 'laws.FnOrderWaves': WHATEVER THE INPUT: true; the input reads as it did. -/
def fnOrderWavesSpec : ChangeSpec := { name := "fnOrderWaves", vars := ["loop.example/dagconsensus/impl.errInvalid", "loop.example/dagconsensus/impl.errNoWave", "loop.example/dagconsensus/impl.errNoVertex"], fn := fun _ => fun
  | [d, g1, g2, g3] => { results := [.lit (.bool true)], args := [d], vars := [g1, g2, g3] }
  | _ => none }
def fnOrderWavesRow : OpenClaim := { program := "ytkabnbjlglippaagreatdoor", sum := "c919f4ae0bbe7e551d25cc42ded44b927bc4957cf560bce7e880be9f453cdf2b", func := "loop.example/dagconsensus/laws.FnOrderWaves", spec := "fnOrderWaves", inPlace := ["internal/reflectlite.TypeOf"], unfollowed := true, recurses := true, named := ["loop.example/dagconsensus/impl.errInvalid", "loop.example/dagconsensus/impl.errNoWave", "loop.example/dagconsensus/impl.errNoVertex"], ifaces := true, apart := false, laid := [("loop.example/dagconsensus/impl.errInvalid", laid_loop_example_dagconsensus_impl_errInvalid), ("loop.example/dagconsensus/impl.errNoWave", laid_loop_example_dagconsensus_impl_errNoWave), ("loop.example/dagconsensus/impl.errNoVertex", laid_loop_example_dagconsensus_impl_errNoVertex)] }
def FnOrderWavesSaid : Prop := fnOrderWavesRow.holds Tryz.pinned (OpenSpec.ofChange fnOrderWavesSpec)

/-- ITS FALSE NEIGHBOUR: 'it returns false'. Refute it at one input. -/
def fnOrderWavesWrong : ChangeSpec := { name := "fnOrderWaves", vars := ["loop.example/dagconsensus/impl.errInvalid", "loop.example/dagconsensus/impl.errNoWave", "loop.example/dagconsensus/impl.errNoVertex"], fn := fun _ => fun
  | [d, g1, g2, g3] => { results := [.lit (.bool false)], args := [d], vars := [g1, g2, g3] }
  | _ => none }
def FnOrderWavesWrongFalsely : Prop := fnOrderWavesRow.holds Tryz.pinned (OpenSpec.ofChange fnOrderWavesWrong)

/-- 'laws.FnOrderQuorum': WHATEVER THE INPUT: true; the input reads as it did. -/
def fnOrderQuorumSpec : ChangeSpec := { name := "fnOrderQuorum", vars := ["loop.example/dagconsensus/impl.errInvalid", "loop.example/dagconsensus/impl.errNoWave", "loop.example/dagconsensus/impl.errNoVertex"], fn := fun _ => fun
  | [d, g1, g2, g3] => { results := [.lit (.bool true)], args := [d], vars := [g1, g2, g3] }
  | _ => none }
def fnOrderQuorumRow : OpenClaim := { program := "ytkabnbjlglippaagreatdoor", sum := "c919f4ae0bbe7e551d25cc42ded44b927bc4957cf560bce7e880be9f453cdf2b", func := "loop.example/dagconsensus/laws.FnOrderQuorum", spec := "fnOrderQuorum", inPlace := ["internal/reflectlite.TypeOf"], unfollowed := true, recurses := true, named := ["loop.example/dagconsensus/impl.errInvalid", "loop.example/dagconsensus/impl.errNoWave", "loop.example/dagconsensus/impl.errNoVertex"], ifaces := true, apart := false, laid := [("loop.example/dagconsensus/impl.errInvalid", laid_loop_example_dagconsensus_impl_errInvalid), ("loop.example/dagconsensus/impl.errNoWave", laid_loop_example_dagconsensus_impl_errNoWave), ("loop.example/dagconsensus/impl.errNoVertex", laid_loop_example_dagconsensus_impl_errNoVertex)] }
def FnOrderQuorumSaid : Prop := fnOrderQuorumRow.holds Tryz.pinned (OpenSpec.ofChange fnOrderQuorumSpec)

/-- ITS FALSE NEIGHBOUR: 'it returns false'. Refute it at one input. -/
def fnOrderQuorumWrong : ChangeSpec := { name := "fnOrderQuorum", vars := ["loop.example/dagconsensus/impl.errInvalid", "loop.example/dagconsensus/impl.errNoWave", "loop.example/dagconsensus/impl.errNoVertex"], fn := fun _ => fun
  | [d, g1, g2, g3] => { results := [.lit (.bool false)], args := [d], vars := [g1, g2, g3] }
  | _ => none }
def FnOrderQuorumWrongFalsely : Prop := fnOrderQuorumRow.holds Tryz.pinned (OpenSpec.ofChange fnOrderQuorumWrong)

/-- 'laws.FnOrderCausal': WHATEVER THE INPUT: true; the input reads as it did. -/
def fnOrderCausalSpec : ChangeSpec := { name := "fnOrderCausal", vars := ["loop.example/dagconsensus/impl.errInvalid", "loop.example/dagconsensus/impl.errNoWave", "loop.example/dagconsensus/impl.errNoVertex"], fn := fun _ => fun
  | [d, g1, g2, g3] => { results := [.lit (.bool true)], args := [d], vars := [g1, g2, g3] }
  | _ => none }
def fnOrderCausalRow : OpenClaim := { program := "ytkabnbjlglippaagreatdoor", sum := "c919f4ae0bbe7e551d25cc42ded44b927bc4957cf560bce7e880be9f453cdf2b", func := "loop.example/dagconsensus/laws.FnOrderCausal", spec := "fnOrderCausal", inPlace := ["internal/reflectlite.TypeOf"], unfollowed := true, recurses := true, named := ["loop.example/dagconsensus/impl.errInvalid", "loop.example/dagconsensus/impl.errNoWave", "loop.example/dagconsensus/impl.errNoVertex"], ifaces := true, apart := false, laid := [("loop.example/dagconsensus/impl.errInvalid", laid_loop_example_dagconsensus_impl_errInvalid), ("loop.example/dagconsensus/impl.errNoWave", laid_loop_example_dagconsensus_impl_errNoWave), ("loop.example/dagconsensus/impl.errNoVertex", laid_loop_example_dagconsensus_impl_errNoVertex)] }
def FnOrderCausalSaid : Prop := fnOrderCausalRow.holds Tryz.pinned (OpenSpec.ofChange fnOrderCausalSpec)

/-- ITS FALSE NEIGHBOUR: 'it returns false'. Refute it at one input. -/
def fnOrderCausalWrong : ChangeSpec := { name := "fnOrderCausal", vars := ["loop.example/dagconsensus/impl.errInvalid", "loop.example/dagconsensus/impl.errNoWave", "loop.example/dagconsensus/impl.errNoVertex"], fn := fun _ => fun
  | [d, g1, g2, g3] => { results := [.lit (.bool false)], args := [d], vars := [g1, g2, g3] }
  | _ => none }
def FnOrderCausalWrongFalsely : Prop := fnOrderCausalRow.holds Tryz.pinned (OpenSpec.ofChange fnOrderCausalWrong)

/-- 'laws.FnOrderOnce': WHATEVER THE INPUT: true; the input reads as it did. -/
def fnOrderOnceSpec : ChangeSpec := { name := "fnOrderOnce", vars := ["loop.example/dagconsensus/impl.errInvalid", "loop.example/dagconsensus/impl.errNoWave", "loop.example/dagconsensus/impl.errNoVertex"], fn := fun _ => fun
  | [d, g1, g2, g3] => { results := [.lit (.bool true)], args := [d], vars := [g1, g2, g3] }
  | _ => none }
def fnOrderOnceRow : OpenClaim := { program := "ytkabnbjlglippaagreatdoor", sum := "c919f4ae0bbe7e551d25cc42ded44b927bc4957cf560bce7e880be9f453cdf2b", func := "loop.example/dagconsensus/laws.FnOrderOnce", spec := "fnOrderOnce", inPlace := ["internal/reflectlite.TypeOf"], unfollowed := true, recurses := true, named := ["loop.example/dagconsensus/impl.errInvalid", "loop.example/dagconsensus/impl.errNoWave", "loop.example/dagconsensus/impl.errNoVertex"], ifaces := true, apart := false, laid := [("loop.example/dagconsensus/impl.errInvalid", laid_loop_example_dagconsensus_impl_errInvalid), ("loop.example/dagconsensus/impl.errNoWave", laid_loop_example_dagconsensus_impl_errNoWave), ("loop.example/dagconsensus/impl.errNoVertex", laid_loop_example_dagconsensus_impl_errNoVertex)] }
def FnOrderOnceSaid : Prop := fnOrderOnceRow.holds Tryz.pinned (OpenSpec.ofChange fnOrderOnceSpec)

/-- ITS FALSE NEIGHBOUR: 'it returns false'. Refute it at one input. -/
def fnOrderOnceWrong : ChangeSpec := { name := "fnOrderOnce", vars := ["loop.example/dagconsensus/impl.errInvalid", "loop.example/dagconsensus/impl.errNoWave", "loop.example/dagconsensus/impl.errNoVertex"], fn := fun _ => fun
  | [d, g1, g2, g3] => { results := [.lit (.bool false)], args := [d], vars := [g1, g2, g3] }
  | _ => none }
def FnOrderOnceWrongFalsely : Prop := fnOrderOnceRow.holds Tryz.pinned (OpenSpec.ofChange fnOrderOnceWrong)

/-- 'laws.FnOrderWave': WHATEVER THE INPUT: true; the input reads as it did. -/
def fnOrderWaveSpec : ChangeSpec := { name := "fnOrderWave", vars := ["loop.example/dagconsensus/impl.errInvalid", "loop.example/dagconsensus/impl.errNoWave", "loop.example/dagconsensus/impl.errNoVertex"], fn := fun _ => fun
  | [d, g1, g2, g3] => { results := [.lit (.bool true)], args := [d], vars := [g1, g2, g3] }
  | _ => none }
def fnOrderWaveRow : OpenClaim := { program := "ytkabnbjlglippaagreatdoor", sum := "c919f4ae0bbe7e551d25cc42ded44b927bc4957cf560bce7e880be9f453cdf2b", func := "loop.example/dagconsensus/laws.FnOrderWave", spec := "fnOrderWave", inPlace := ["internal/reflectlite.TypeOf"], unfollowed := true, recurses := true, named := ["loop.example/dagconsensus/impl.errInvalid", "loop.example/dagconsensus/impl.errNoWave", "loop.example/dagconsensus/impl.errNoVertex"], ifaces := true, apart := false, laid := [("loop.example/dagconsensus/impl.errInvalid", laid_loop_example_dagconsensus_impl_errInvalid), ("loop.example/dagconsensus/impl.errNoWave", laid_loop_example_dagconsensus_impl_errNoWave), ("loop.example/dagconsensus/impl.errNoVertex", laid_loop_example_dagconsensus_impl_errNoVertex)] }
def FnOrderWaveSaid : Prop := fnOrderWaveRow.holds Tryz.pinned (OpenSpec.ofChange fnOrderWaveSpec)

/-- ITS FALSE NEIGHBOUR: 'it returns false'. Refute it at one input. -/
def fnOrderWaveWrong : ChangeSpec := { name := "fnOrderWave", vars := ["loop.example/dagconsensus/impl.errInvalid", "loop.example/dagconsensus/impl.errNoWave", "loop.example/dagconsensus/impl.errNoVertex"], fn := fun _ => fun
  | [d, g1, g2, g3] => { results := [.lit (.bool false)], args := [d], vars := [g1, g2, g3] }
  | _ => none }
def FnOrderWaveWrongFalsely : Prop := fnOrderWaveRow.holds Tryz.pinned (OpenSpec.ofChange fnOrderWaveWrong)

/-- 'laws.FnOrderDigests': WHATEVER THE INPUT: true; the input reads as it did. -/
def fnOrderDigestsSpec : ChangeSpec := { name := "fnOrderDigests", vars := ["loop.example/dagconsensus/impl.errInvalid", "loop.example/dagconsensus/impl.errNoWave", "loop.example/dagconsensus/impl.errNoVertex"], fn := fun _ => fun
  | [d, g1, g2, g3] => { results := [.lit (.bool true)], args := [d], vars := [g1, g2, g3] }
  | _ => none }
def fnOrderDigestsRow : OpenClaim := { program := "ytkabnbjlglippaagreatdoor", sum := "c919f4ae0bbe7e551d25cc42ded44b927bc4957cf560bce7e880be9f453cdf2b", func := "loop.example/dagconsensus/laws.FnOrderDigests", spec := "fnOrderDigests", inPlace := ["internal/reflectlite.TypeOf"], unfollowed := true, recurses := true, named := ["loop.example/dagconsensus/impl.errInvalid", "loop.example/dagconsensus/impl.errNoWave", "loop.example/dagconsensus/impl.errNoVertex"], ifaces := true, apart := false, laid := [("loop.example/dagconsensus/impl.errInvalid", laid_loop_example_dagconsensus_impl_errInvalid), ("loop.example/dagconsensus/impl.errNoWave", laid_loop_example_dagconsensus_impl_errNoWave), ("loop.example/dagconsensus/impl.errNoVertex", laid_loop_example_dagconsensus_impl_errNoVertex)] }
def FnOrderDigestsSaid : Prop := fnOrderDigestsRow.holds Tryz.pinned (OpenSpec.ofChange fnOrderDigestsSpec)

/-- ITS FALSE NEIGHBOUR: 'it returns false'. Refute it at one input. -/
def fnOrderDigestsWrong : ChangeSpec := { name := "fnOrderDigests", vars := ["loop.example/dagconsensus/impl.errInvalid", "loop.example/dagconsensus/impl.errNoWave", "loop.example/dagconsensus/impl.errNoVertex"], fn := fun _ => fun
  | [d, g1, g2, g3] => { results := [.lit (.bool false)], args := [d], vars := [g1, g2, g3] }
  | _ => none }
def FnOrderDigestsWrongFalsely : Prop := fnOrderDigestsRow.holds Tryz.pinned (OpenSpec.ofChange fnOrderDigestsWrong)

/-- 'laws.FnOrderPast': WHATEVER THE INPUT: true; the input reads as it did. -/
def fnOrderPastSpec : ChangeSpec := { name := "fnOrderPast", vars := ["loop.example/dagconsensus/impl.errInvalid", "loop.example/dagconsensus/impl.errNoWave", "loop.example/dagconsensus/impl.errNoVertex"], fn := fun _ => fun
  | [d, g1, g2, g3] => { results := [.lit (.bool true)], args := [d], vars := [g1, g2, g3] }
  | _ => none }
def fnOrderPastRow : OpenClaim := { program := "ytkabnbjlglippaagreatdoor", sum := "c919f4ae0bbe7e551d25cc42ded44b927bc4957cf560bce7e880be9f453cdf2b", func := "loop.example/dagconsensus/laws.FnOrderPast", spec := "fnOrderPast", inPlace := ["internal/reflectlite.TypeOf"], unfollowed := true, recurses := true, named := ["loop.example/dagconsensus/impl.errInvalid", "loop.example/dagconsensus/impl.errNoWave", "loop.example/dagconsensus/impl.errNoVertex"], ifaces := true, apart := false, laid := [("loop.example/dagconsensus/impl.errInvalid", laid_loop_example_dagconsensus_impl_errInvalid), ("loop.example/dagconsensus/impl.errNoWave", laid_loop_example_dagconsensus_impl_errNoWave), ("loop.example/dagconsensus/impl.errNoVertex", laid_loop_example_dagconsensus_impl_errNoVertex)] }
def FnOrderPastSaid : Prop := fnOrderPastRow.holds Tryz.pinned (OpenSpec.ofChange fnOrderPastSpec)

/-- ITS FALSE NEIGHBOUR: 'it returns false'. Refute it at one input. -/
def fnOrderPastWrong : ChangeSpec := { name := "fnOrderPast", vars := ["loop.example/dagconsensus/impl.errInvalid", "loop.example/dagconsensus/impl.errNoWave", "loop.example/dagconsensus/impl.errNoVertex"], fn := fun _ => fun
  | [d, g1, g2, g3] => { results := [.lit (.bool false)], args := [d], vars := [g1, g2, g3] }
  | _ => none }
def FnOrderPastWrongFalsely : Prop := fnOrderPastRow.holds Tryz.pinned (OpenSpec.ofChange fnOrderPastWrong)

/-- 'laws.FnOrderAgree': WHATEVER THE INPUT: true; the input reads as it did. -/
def fnOrderAgreeSpec : ChangeSpec := { name := "fnOrderAgree", vars := ["loop.example/dagconsensus/impl.errInvalid", "loop.example/dagconsensus/impl.errNoWave", "loop.example/dagconsensus/impl.errNoVertex"], fn := fun _ => fun
  | [d1, d2, g1, g2, g3] => { results := [.lit (.bool true)], args := [d1, d2], vars := [g1, g2, g3] }
  | _ => none }
def fnOrderAgreeRow : OpenClaim := { program := "ytkabnbjlglippaagreatdoor", sum := "c919f4ae0bbe7e551d25cc42ded44b927bc4957cf560bce7e880be9f453cdf2b", func := "loop.example/dagconsensus/laws.FnOrderAgree", spec := "fnOrderAgree", inPlace := ["internal/reflectlite.TypeOf"], unfollowed := true, recurses := true, named := ["loop.example/dagconsensus/impl.errInvalid", "loop.example/dagconsensus/impl.errNoWave", "loop.example/dagconsensus/impl.errNoVertex"], ifaces := true, apart := false, laid := [("loop.example/dagconsensus/impl.errInvalid", laid_loop_example_dagconsensus_impl_errInvalid), ("loop.example/dagconsensus/impl.errNoWave", laid_loop_example_dagconsensus_impl_errNoWave), ("loop.example/dagconsensus/impl.errNoVertex", laid_loop_example_dagconsensus_impl_errNoVertex)] }
def FnOrderAgreeSaid : Prop := fnOrderAgreeRow.holds Tryz.pinned (OpenSpec.ofChange fnOrderAgreeSpec)

/-- ITS FALSE NEIGHBOUR: 'it returns false'. Refute it at one input. -/
def fnOrderAgreeWrong : ChangeSpec := { name := "fnOrderAgree", vars := ["loop.example/dagconsensus/impl.errInvalid", "loop.example/dagconsensus/impl.errNoWave", "loop.example/dagconsensus/impl.errNoVertex"], fn := fun _ => fun
  | [d1, d2, g1, g2, g3] => { results := [.lit (.bool false)], args := [d1, d2], vars := [g1, g2, g3] }
  | _ => none }
def FnOrderAgreeWrongFalsely : Prop := fnOrderAgreeRow.holds Tryz.pinned (OpenSpec.ofChange fnOrderAgreeWrong)

/-- 'laws.FnOrderGrow': WHATEVER THE INPUT: true; the input reads as it did. -/
def fnOrderGrowSpec : ChangeSpec := { name := "fnOrderGrow", vars := ["loop.example/dagconsensus/impl.errInvalid", "loop.example/dagconsensus/impl.errNoWave", "loop.example/dagconsensus/impl.errNoVertex"], fn := fun _ => fun
  | [d1, d2, g1, g2, g3] => { results := [.lit (.bool true)], args := [d1, d2], vars := [g1, g2, g3] }
  | _ => none }
def fnOrderGrowRow : OpenClaim := { program := "ytkabnbjlglippaagreatdoor", sum := "c919f4ae0bbe7e551d25cc42ded44b927bc4957cf560bce7e880be9f453cdf2b", func := "loop.example/dagconsensus/laws.FnOrderGrow", spec := "fnOrderGrow", inPlace := ["internal/reflectlite.TypeOf"], unfollowed := true, recurses := true, named := ["loop.example/dagconsensus/impl.errInvalid", "loop.example/dagconsensus/impl.errNoWave", "loop.example/dagconsensus/impl.errNoVertex"], ifaces := true, apart := false, laid := [("loop.example/dagconsensus/impl.errInvalid", laid_loop_example_dagconsensus_impl_errInvalid), ("loop.example/dagconsensus/impl.errNoWave", laid_loop_example_dagconsensus_impl_errNoWave), ("loop.example/dagconsensus/impl.errNoVertex", laid_loop_example_dagconsensus_impl_errNoVertex)] }
def FnOrderGrowSaid : Prop := fnOrderGrowRow.holds Tryz.pinned (OpenSpec.ofChange fnOrderGrowSpec)

/-- ITS FALSE NEIGHBOUR: 'it returns false'. Refute it at one input. -/
def fnOrderGrowWrong : ChangeSpec := { name := "fnOrderGrow", vars := ["loop.example/dagconsensus/impl.errInvalid", "loop.example/dagconsensus/impl.errNoWave", "loop.example/dagconsensus/impl.errNoVertex"], fn := fun _ => fun
  | [d1, d2, g1, g2, g3] => { results := [.lit (.bool false)], args := [d1, d2], vars := [g1, g2, g3] }
  | _ => none }
def FnOrderGrowWrongFalsely : Prop := fnOrderGrowRow.holds Tryz.pinned (OpenSpec.ofChange fnOrderGrowWrong)

/- THE SECOND FORM. 'bulk': how many values and letters a reading holds, each counted each time it is reached (what is shared counts as often as it is met; a slice's spare places count too). A statement '..UptoSaid' is the law's where the arguments, and the package variables that the reading takes, are together of bulk at most 1048576: NARROWER than '..Said'. Prove '..Said' where nothing that the law and all that it calls make is longer than what came in: it says more and counts as full. Else prove '..UptoSaid'. A law counts once. -/
mutual
def uptoBulk {H : Type} : DataW H → Nat
  | .lit (.string bytes) => bytes.length + 1
  | .lit _ => 1
  | .nil => 1
  | .ptr d => uptoBulk d + 1
  | .slice elems spare => uptoBulkAll elems + uptoBulkAll spare + 1
  | .agg parts => uptoBulkAll parts + 1
  | .iface _ d => uptoBulk d + 1
  | .map entries => uptoBulkEntries entries + 1
  | .held _ => 1
def uptoBulkAll {H : Type} : List (DataW H) → Nat
  | [] => 0
  | d :: r => uptoBulk d + uptoBulkAll r
def uptoBulkEntries {H : Type} : List (Lit × DataW H) → Nat
  | [] => 0
  | x :: r => uptoBulkEntry x + uptoBulkEntries r
def uptoBulkEntry {H : Type} : Lit × DataW H → Nat
  | (.string bytes, d) => bytes.length + uptoBulk d + 1
  | (_, d) => uptoBulk d + 1
 end
def uptoSmall : (H : Type) → List (DataW H) → Bool := fun _ ds => decide (uptoBulkAll ds ≤ 1048576)
def OpenSpec.upto (s : _root_.Go.ChangeSpec) : _root_.Go.OpenSpec := { _root_.Go.OpenSpec.ofChange s with cond := some uptoSmall }

/-- 'laws.FnExactOrderDigests', WHERE WHAT IT READS IS OF BULK AT MOST 1048576: true; the input reads as it did. -/
def fnExactOrderDigestsUptoRow : OpenClaim := { program := "ytkabnbjlglippaagreatdoor", sum := "c919f4ae0bbe7e551d25cc42ded44b927bc4957cf560bce7e880be9f453cdf2b", func := "loop.example/dagconsensus/laws.FnExactOrderDigests", spec := "fnExactOrderDigests", inPlace := ["internal/reflectlite.TypeOf"], unfollowed := true, recurses := true, named := ["loop.example/dagconsensus/impl.errInvalid", "loop.example/dagconsensus/impl.errNoWave", "loop.example/dagconsensus/impl.errNoVertex"], ifaces := true, apart := false, laid := [("loop.example/dagconsensus/impl.errInvalid", laid_loop_example_dagconsensus_impl_errInvalid), ("loop.example/dagconsensus/impl.errNoWave", laid_loop_example_dagconsensus_impl_errNoWave), ("loop.example/dagconsensus/impl.errNoVertex", laid_loop_example_dagconsensus_impl_errNoVertex)], narrowed := true }
def FnExactOrderDigestsUptoSaid : Prop := fnExactOrderDigestsUptoRow.holds Tryz.pinned (OpenSpec.upto fnExactOrderDigestsSpec)

/-- 'laws.FnExactOrderSlots', WHERE WHAT IT READS IS OF BULK AT MOST 1048576: true; the input reads as it did. -/
def fnExactOrderSlotsUptoRow : OpenClaim := { program := "ytkabnbjlglippaagreatdoor", sum := "c919f4ae0bbe7e551d25cc42ded44b927bc4957cf560bce7e880be9f453cdf2b", func := "loop.example/dagconsensus/laws.FnExactOrderSlots", spec := "fnExactOrderSlots", inPlace := ["internal/reflectlite.TypeOf"], unfollowed := true, recurses := true, named := ["loop.example/dagconsensus/impl.errInvalid", "loop.example/dagconsensus/impl.errNoWave", "loop.example/dagconsensus/impl.errNoVertex"], ifaces := true, apart := false, laid := [("loop.example/dagconsensus/impl.errInvalid", laid_loop_example_dagconsensus_impl_errInvalid), ("loop.example/dagconsensus/impl.errNoWave", laid_loop_example_dagconsensus_impl_errNoWave), ("loop.example/dagconsensus/impl.errNoVertex", laid_loop_example_dagconsensus_impl_errNoVertex)], narrowed := true }
def FnExactOrderSlotsUptoSaid : Prop := fnExactOrderSlotsUptoRow.holds Tryz.pinned (OpenSpec.upto fnExactOrderSlotsSpec)

/-- 'laws.FnOrderLeaders', WHERE WHAT IT READS IS OF BULK AT MOST 1048576: true; the input reads as it did. -/
def fnOrderLeadersUptoRow : OpenClaim := { program := "ytkabnbjlglippaagreatdoor", sum := "c919f4ae0bbe7e551d25cc42ded44b927bc4957cf560bce7e880be9f453cdf2b", func := "loop.example/dagconsensus/laws.FnOrderLeaders", spec := "fnOrderLeaders", inPlace := ["internal/reflectlite.TypeOf"], unfollowed := true, recurses := true, named := ["loop.example/dagconsensus/impl.errInvalid", "loop.example/dagconsensus/impl.errNoWave", "loop.example/dagconsensus/impl.errNoVertex"], ifaces := true, apart := false, laid := [("loop.example/dagconsensus/impl.errInvalid", laid_loop_example_dagconsensus_impl_errInvalid), ("loop.example/dagconsensus/impl.errNoWave", laid_loop_example_dagconsensus_impl_errNoWave), ("loop.example/dagconsensus/impl.errNoVertex", laid_loop_example_dagconsensus_impl_errNoVertex)], narrowed := true }
def FnOrderLeadersUptoSaid : Prop := fnOrderLeadersUptoRow.holds Tryz.pinned (OpenSpec.upto fnOrderLeadersSpec)

/-- 'laws.FnOrderWaves', WHERE WHAT IT READS IS OF BULK AT MOST 1048576: true; the input reads as it did. -/
def fnOrderWavesUptoRow : OpenClaim := { program := "ytkabnbjlglippaagreatdoor", sum := "c919f4ae0bbe7e551d25cc42ded44b927bc4957cf560bce7e880be9f453cdf2b", func := "loop.example/dagconsensus/laws.FnOrderWaves", spec := "fnOrderWaves", inPlace := ["internal/reflectlite.TypeOf"], unfollowed := true, recurses := true, named := ["loop.example/dagconsensus/impl.errInvalid", "loop.example/dagconsensus/impl.errNoWave", "loop.example/dagconsensus/impl.errNoVertex"], ifaces := true, apart := false, laid := [("loop.example/dagconsensus/impl.errInvalid", laid_loop_example_dagconsensus_impl_errInvalid), ("loop.example/dagconsensus/impl.errNoWave", laid_loop_example_dagconsensus_impl_errNoWave), ("loop.example/dagconsensus/impl.errNoVertex", laid_loop_example_dagconsensus_impl_errNoVertex)], narrowed := true }
def FnOrderWavesUptoSaid : Prop := fnOrderWavesUptoRow.holds Tryz.pinned (OpenSpec.upto fnOrderWavesSpec)

/-- 'laws.FnOrderQuorum', WHERE WHAT IT READS IS OF BULK AT MOST 1048576: true; the input reads as it did. -/
def fnOrderQuorumUptoRow : OpenClaim := { program := "ytkabnbjlglippaagreatdoor", sum := "c919f4ae0bbe7e551d25cc42ded44b927bc4957cf560bce7e880be9f453cdf2b", func := "loop.example/dagconsensus/laws.FnOrderQuorum", spec := "fnOrderQuorum", inPlace := ["internal/reflectlite.TypeOf"], unfollowed := true, recurses := true, named := ["loop.example/dagconsensus/impl.errInvalid", "loop.example/dagconsensus/impl.errNoWave", "loop.example/dagconsensus/impl.errNoVertex"], ifaces := true, apart := false, laid := [("loop.example/dagconsensus/impl.errInvalid", laid_loop_example_dagconsensus_impl_errInvalid), ("loop.example/dagconsensus/impl.errNoWave", laid_loop_example_dagconsensus_impl_errNoWave), ("loop.example/dagconsensus/impl.errNoVertex", laid_loop_example_dagconsensus_impl_errNoVertex)], narrowed := true }
def FnOrderQuorumUptoSaid : Prop := fnOrderQuorumUptoRow.holds Tryz.pinned (OpenSpec.upto fnOrderQuorumSpec)

/-- 'laws.FnOrderCausal', WHERE WHAT IT READS IS OF BULK AT MOST 1048576: true; the input reads as it did. -/
def fnOrderCausalUptoRow : OpenClaim := { program := "ytkabnbjlglippaagreatdoor", sum := "c919f4ae0bbe7e551d25cc42ded44b927bc4957cf560bce7e880be9f453cdf2b", func := "loop.example/dagconsensus/laws.FnOrderCausal", spec := "fnOrderCausal", inPlace := ["internal/reflectlite.TypeOf"], unfollowed := true, recurses := true, named := ["loop.example/dagconsensus/impl.errInvalid", "loop.example/dagconsensus/impl.errNoWave", "loop.example/dagconsensus/impl.errNoVertex"], ifaces := true, apart := false, laid := [("loop.example/dagconsensus/impl.errInvalid", laid_loop_example_dagconsensus_impl_errInvalid), ("loop.example/dagconsensus/impl.errNoWave", laid_loop_example_dagconsensus_impl_errNoWave), ("loop.example/dagconsensus/impl.errNoVertex", laid_loop_example_dagconsensus_impl_errNoVertex)], narrowed := true }
def FnOrderCausalUptoSaid : Prop := fnOrderCausalUptoRow.holds Tryz.pinned (OpenSpec.upto fnOrderCausalSpec)

/-- 'laws.FnOrderOnce', WHERE WHAT IT READS IS OF BULK AT MOST 1048576: true; the input reads as it did. -/
def fnOrderOnceUptoRow : OpenClaim := { program := "ytkabnbjlglippaagreatdoor", sum := "c919f4ae0bbe7e551d25cc42ded44b927bc4957cf560bce7e880be9f453cdf2b", func := "loop.example/dagconsensus/laws.FnOrderOnce", spec := "fnOrderOnce", inPlace := ["internal/reflectlite.TypeOf"], unfollowed := true, recurses := true, named := ["loop.example/dagconsensus/impl.errInvalid", "loop.example/dagconsensus/impl.errNoWave", "loop.example/dagconsensus/impl.errNoVertex"], ifaces := true, apart := false, laid := [("loop.example/dagconsensus/impl.errInvalid", laid_loop_example_dagconsensus_impl_errInvalid), ("loop.example/dagconsensus/impl.errNoWave", laid_loop_example_dagconsensus_impl_errNoWave), ("loop.example/dagconsensus/impl.errNoVertex", laid_loop_example_dagconsensus_impl_errNoVertex)], narrowed := true }
def FnOrderOnceUptoSaid : Prop := fnOrderOnceUptoRow.holds Tryz.pinned (OpenSpec.upto fnOrderOnceSpec)

/-- 'laws.FnOrderWave', WHERE WHAT IT READS IS OF BULK AT MOST 1048576: true; the input reads as it did. -/
def fnOrderWaveUptoRow : OpenClaim := { program := "ytkabnbjlglippaagreatdoor", sum := "c919f4ae0bbe7e551d25cc42ded44b927bc4957cf560bce7e880be9f453cdf2b", func := "loop.example/dagconsensus/laws.FnOrderWave", spec := "fnOrderWave", inPlace := ["internal/reflectlite.TypeOf"], unfollowed := true, recurses := true, named := ["loop.example/dagconsensus/impl.errInvalid", "loop.example/dagconsensus/impl.errNoWave", "loop.example/dagconsensus/impl.errNoVertex"], ifaces := true, apart := false, laid := [("loop.example/dagconsensus/impl.errInvalid", laid_loop_example_dagconsensus_impl_errInvalid), ("loop.example/dagconsensus/impl.errNoWave", laid_loop_example_dagconsensus_impl_errNoWave), ("loop.example/dagconsensus/impl.errNoVertex", laid_loop_example_dagconsensus_impl_errNoVertex)], narrowed := true }
def FnOrderWaveUptoSaid : Prop := fnOrderWaveUptoRow.holds Tryz.pinned (OpenSpec.upto fnOrderWaveSpec)

/-- 'laws.FnOrderDigests', WHERE WHAT IT READS IS OF BULK AT MOST 1048576: true; the input reads as it did. -/
def fnOrderDigestsUptoRow : OpenClaim := { program := "ytkabnbjlglippaagreatdoor", sum := "c919f4ae0bbe7e551d25cc42ded44b927bc4957cf560bce7e880be9f453cdf2b", func := "loop.example/dagconsensus/laws.FnOrderDigests", spec := "fnOrderDigests", inPlace := ["internal/reflectlite.TypeOf"], unfollowed := true, recurses := true, named := ["loop.example/dagconsensus/impl.errInvalid", "loop.example/dagconsensus/impl.errNoWave", "loop.example/dagconsensus/impl.errNoVertex"], ifaces := true, apart := false, laid := [("loop.example/dagconsensus/impl.errInvalid", laid_loop_example_dagconsensus_impl_errInvalid), ("loop.example/dagconsensus/impl.errNoWave", laid_loop_example_dagconsensus_impl_errNoWave), ("loop.example/dagconsensus/impl.errNoVertex", laid_loop_example_dagconsensus_impl_errNoVertex)], narrowed := true }
def FnOrderDigestsUptoSaid : Prop := fnOrderDigestsUptoRow.holds Tryz.pinned (OpenSpec.upto fnOrderDigestsSpec)

/-- 'laws.FnOrderPast', WHERE WHAT IT READS IS OF BULK AT MOST 1048576: true; the input reads as it did. -/
def fnOrderPastUptoRow : OpenClaim := { program := "ytkabnbjlglippaagreatdoor", sum := "c919f4ae0bbe7e551d25cc42ded44b927bc4957cf560bce7e880be9f453cdf2b", func := "loop.example/dagconsensus/laws.FnOrderPast", spec := "fnOrderPast", inPlace := ["internal/reflectlite.TypeOf"], unfollowed := true, recurses := true, named := ["loop.example/dagconsensus/impl.errInvalid", "loop.example/dagconsensus/impl.errNoWave", "loop.example/dagconsensus/impl.errNoVertex"], ifaces := true, apart := false, laid := [("loop.example/dagconsensus/impl.errInvalid", laid_loop_example_dagconsensus_impl_errInvalid), ("loop.example/dagconsensus/impl.errNoWave", laid_loop_example_dagconsensus_impl_errNoWave), ("loop.example/dagconsensus/impl.errNoVertex", laid_loop_example_dagconsensus_impl_errNoVertex)], narrowed := true }
def FnOrderPastUptoSaid : Prop := fnOrderPastUptoRow.holds Tryz.pinned (OpenSpec.upto fnOrderPastSpec)

/-- 'laws.FnOrderAgree', WHERE WHAT IT READS IS OF BULK AT MOST 1048576: true; the input reads as it did. -/
def fnOrderAgreeUptoRow : OpenClaim := { program := "ytkabnbjlglippaagreatdoor", sum := "c919f4ae0bbe7e551d25cc42ded44b927bc4957cf560bce7e880be9f453cdf2b", func := "loop.example/dagconsensus/laws.FnOrderAgree", spec := "fnOrderAgree", inPlace := ["internal/reflectlite.TypeOf"], unfollowed := true, recurses := true, named := ["loop.example/dagconsensus/impl.errInvalid", "loop.example/dagconsensus/impl.errNoWave", "loop.example/dagconsensus/impl.errNoVertex"], ifaces := true, apart := false, laid := [("loop.example/dagconsensus/impl.errInvalid", laid_loop_example_dagconsensus_impl_errInvalid), ("loop.example/dagconsensus/impl.errNoWave", laid_loop_example_dagconsensus_impl_errNoWave), ("loop.example/dagconsensus/impl.errNoVertex", laid_loop_example_dagconsensus_impl_errNoVertex)], narrowed := true }
def FnOrderAgreeUptoSaid : Prop := fnOrderAgreeUptoRow.holds Tryz.pinned (OpenSpec.upto fnOrderAgreeSpec)

/-- 'laws.FnOrderGrow', WHERE WHAT IT READS IS OF BULK AT MOST 1048576: true; the input reads as it did. -/
def fnOrderGrowUptoRow : OpenClaim := { program := "ytkabnbjlglippaagreatdoor", sum := "c919f4ae0bbe7e551d25cc42ded44b927bc4957cf560bce7e880be9f453cdf2b", func := "loop.example/dagconsensus/laws.FnOrderGrow", spec := "fnOrderGrow", inPlace := ["internal/reflectlite.TypeOf"], unfollowed := true, recurses := true, named := ["loop.example/dagconsensus/impl.errInvalid", "loop.example/dagconsensus/impl.errNoWave", "loop.example/dagconsensus/impl.errNoVertex"], ifaces := true, apart := false, laid := [("loop.example/dagconsensus/impl.errInvalid", laid_loop_example_dagconsensus_impl_errInvalid), ("loop.example/dagconsensus/impl.errNoWave", laid_loop_example_dagconsensus_impl_errNoWave), ("loop.example/dagconsensus/impl.errNoVertex", laid_loop_example_dagconsensus_impl_errNoVertex)], narrowed := true }
def FnOrderGrowUptoSaid : Prop := fnOrderGrowUptoRow.holds Tryz.pinned (OpenSpec.upto fnOrderGrowSpec)

end Rows
end Go.Proofs.YtkabnbjlglippaaGreatDoor
