/-
  NARROWER THAN 'FOR EVERY INPUT', by the rows' own cells (each row's printed sentence says how): FnWavesLeaders: ifaces, laid · FnWavesDirect: ifaces, laid · FnWavesAscending: ifaces, laid · FnWavesLinked: ifaces, laid · FnWavesAgree: ifaces, laid · FnWavesGrow: ifaces, laid · FnWavesReach: ifaces, laid.
  DERIVED. THE GIVEN ROWS OF THIS SEAT. 7 by the template 'for every input the law returns true; each argument reads behind the call as it read before'; 0 by the template 'total and deterministic' (their statements: YtenflffikgfphaaDoorTotals.lean).
  GIVEN WITH THE SEED: the statements are not yours to turn. If you find one false, say at which input.
  Laid BY PROGRAM, IN A SANDBOX (cutbox-rows.mjs): the forced cells as the released guide's own fill.sh prints them over the translation 124be3427d28b851… (all of the seat's roots in one cut). By AI agents, Wed Nov 11 2026. No macro, syntax, notation, axiom, sorry.
-/
import Derived.Test.YtenflffikgfphaaDoorChecked
import GoSem.Claim
import GoSem.ClaimJoined
import GoSem.ClaimMapViews
import Derived.JoinedTies
import Derived.KernelRfl
namespace Go.Proofs.YtenflffikgfphaaDoor
/- THE CELL 'sum', in the pinned program and in every row, IS THE sha256 OF THE DUMP (.gsa) THAT YtenflffikgfphaaDoorProg.lean LOADS. Nothing in Lean hashes anything: it is a label: what it is worth is what the hold of that sum in a sandbox is worth. -/
noncomputable def Tryd.pinned : Pinned := { name := "ytenflffikgfphaadoor", sum := "124be3427d28b851fc53df9d7eb8f9ee860fdb6bd3ef34a51852b57b2d8cb86e", checked := Tryd.checked }
namespace Rows
def none {H : Type} : Left H := { results := [], args := [] }

/- WHAT THE LISTED PACKAGE-LEVEL VARIABLES READ AS WHEN THE CALL BEGINS. Each datum BY PROGRAM (the guide's laid-datum.mjs) off the statement by which the dump's own 'gosem.cut.vars' lays the variable. In a bare row this is a premise. The card (YtenflffikgfphaaDoorCards.lean) ties it to the program's text. -/
def laid_loop_example_dagconsensus_impl_errInvalid {H : Type} : DataW H := .iface "*errors.errorString" (.ptr (.agg [.lit (.string [116, 104, 101, 32, 103, 114, 97, 112, 104, 32, 111, 114, 32, 116, 104, 101, 32, 108, 101, 97, 100, 101, 114, 115, 32, 97, 114, 101, 32, 105, 110, 118, 97, 108, 105, 100])]))
def laid_loop_example_dagconsensus_impl_errNoWave {H : Type} : DataW H := .iface "*errors.errorString" (.ptr (.agg [.lit (.string [116, 104, 101, 114, 101, 32, 105, 115, 32, 110, 111, 32, 115, 117, 99, 104, 32, 119, 97, 118, 101])]))
def laid_loop_example_dagconsensus_impl_errNoVertex {H : Type} : DataW H := .iface "*errors.errorString" (.ptr (.agg [.lit (.string [116, 104, 101, 32, 108, 101, 97, 100, 101, 114, 32, 104, 97, 115, 32, 110, 111, 32, 118, 101, 114, 116, 101, 120, 32, 105, 110, 32, 116, 104, 105, 115, 32, 119, 97, 118, 101])]))

/-- 'laws.FnWavesLeaders': WHATEVER THE INPUT: true; the input reads as it did. -/
def fnWavesLeadersSpec : ChangeSpec := { name := "fnWavesLeaders", vars := ["loop.example/dagconsensus/impl.errInvalid", "loop.example/dagconsensus/impl.errNoWave", "loop.example/dagconsensus/impl.errNoVertex"], fn := fun _ => fun
  | [d1, d2, g1, g2, g3] => { results := [.lit (.bool true)], args := [d1, d2], vars := [g1, g2, g3] }
  | _ => none }
def fnWavesLeadersRow : OpenClaim := { program := "ytenflffikgfphaadoor", sum := "124be3427d28b851fc53df9d7eb8f9ee860fdb6bd3ef34a51852b57b2d8cb86e", func := "loop.example/dagconsensus/laws.FnWavesLeaders", spec := "fnWavesLeaders", inPlace := ["internal/reflectlite.TypeOf"], unfollowed := true, recurses := true, named := ["loop.example/dagconsensus/impl.errInvalid", "loop.example/dagconsensus/impl.errNoWave", "loop.example/dagconsensus/impl.errNoVertex"], ifaces := true, apart := false, laid := [("loop.example/dagconsensus/impl.errInvalid", laid_loop_example_dagconsensus_impl_errInvalid), ("loop.example/dagconsensus/impl.errNoWave", laid_loop_example_dagconsensus_impl_errNoWave), ("loop.example/dagconsensus/impl.errNoVertex", laid_loop_example_dagconsensus_impl_errNoVertex)] }
def FnWavesLeadersSaid : Prop := fnWavesLeadersRow.holds Tryd.pinned (OpenSpec.ofChange fnWavesLeadersSpec)

/-- ITS FALSE NEIGHBOUR: 'it returns false'. Refute it at one input. -/
def fnWavesLeadersWrong : ChangeSpec := { name := "fnWavesLeaders", vars := ["loop.example/dagconsensus/impl.errInvalid", "loop.example/dagconsensus/impl.errNoWave", "loop.example/dagconsensus/impl.errNoVertex"], fn := fun _ => fun
  | [d1, d2, g1, g2, g3] => { results := [.lit (.bool false)], args := [d1, d2], vars := [g1, g2, g3] }
  | _ => none }
def FnWavesLeadersWrongFalsely : Prop := fnWavesLeadersRow.holds Tryd.pinned (OpenSpec.ofChange fnWavesLeadersWrong)

/-- 'laws.FnWavesDirect': WHATEVER THE INPUT: true; the input reads as it did. -/
def fnWavesDirectSpec : ChangeSpec := { name := "fnWavesDirect", vars := ["loop.example/dagconsensus/impl.errInvalid", "loop.example/dagconsensus/impl.errNoWave", "loop.example/dagconsensus/impl.errNoVertex"], fn := fun _ => fun
  | [d, g1, g2, g3] => { results := [.lit (.bool true)], args := [d], vars := [g1, g2, g3] }
  | _ => none }
def fnWavesDirectRow : OpenClaim := { program := "ytenflffikgfphaadoor", sum := "124be3427d28b851fc53df9d7eb8f9ee860fdb6bd3ef34a51852b57b2d8cb86e", func := "loop.example/dagconsensus/laws.FnWavesDirect", spec := "fnWavesDirect", inPlace := ["internal/reflectlite.TypeOf"], unfollowed := true, recurses := true, named := ["loop.example/dagconsensus/impl.errInvalid", "loop.example/dagconsensus/impl.errNoWave", "loop.example/dagconsensus/impl.errNoVertex"], ifaces := true, apart := false, laid := [("loop.example/dagconsensus/impl.errInvalid", laid_loop_example_dagconsensus_impl_errInvalid), ("loop.example/dagconsensus/impl.errNoWave", laid_loop_example_dagconsensus_impl_errNoWave), ("loop.example/dagconsensus/impl.errNoVertex", laid_loop_example_dagconsensus_impl_errNoVertex)] }
def FnWavesDirectSaid : Prop := fnWavesDirectRow.holds Tryd.pinned (OpenSpec.ofChange fnWavesDirectSpec)

/-- ITS FALSE NEIGHBOUR: 'it returns false'. Refute it at one input. -/
def fnWavesDirectWrong : ChangeSpec := { name := "fnWavesDirect", vars := ["loop.example/dagconsensus/impl.errInvalid", "loop.example/dagconsensus/impl.errNoWave", "loop.example/dagconsensus/impl.errNoVertex"], fn := fun _ => fun
  | [d, g1, g2, g3] => { results := [.lit (.bool false)], args := [d], vars := [g1, g2, g3] }
  | _ => none }
def FnWavesDirectWrongFalsely : Prop := fnWavesDirectRow.holds Tryd.pinned (OpenSpec.ofChange fnWavesDirectWrong)

/-- 'laws.FnWavesAscending': WHATEVER THE INPUT: true; the input reads as it did. -/
def fnWavesAscendingSpec : ChangeSpec := { name := "fnWavesAscending", vars := ["loop.example/dagconsensus/impl.errInvalid", "loop.example/dagconsensus/impl.errNoWave", "loop.example/dagconsensus/impl.errNoVertex"], fn := fun _ => fun
  | [d, g1, g2, g3] => { results := [.lit (.bool true)], args := [d], vars := [g1, g2, g3] }
  | _ => none }
def fnWavesAscendingRow : OpenClaim := { program := "ytenflffikgfphaadoor", sum := "124be3427d28b851fc53df9d7eb8f9ee860fdb6bd3ef34a51852b57b2d8cb86e", func := "loop.example/dagconsensus/laws.FnWavesAscending", spec := "fnWavesAscending", inPlace := ["internal/reflectlite.TypeOf"], unfollowed := true, recurses := true, named := ["loop.example/dagconsensus/impl.errInvalid", "loop.example/dagconsensus/impl.errNoWave", "loop.example/dagconsensus/impl.errNoVertex"], ifaces := true, apart := false, laid := [("loop.example/dagconsensus/impl.errInvalid", laid_loop_example_dagconsensus_impl_errInvalid), ("loop.example/dagconsensus/impl.errNoWave", laid_loop_example_dagconsensus_impl_errNoWave), ("loop.example/dagconsensus/impl.errNoVertex", laid_loop_example_dagconsensus_impl_errNoVertex)] }
def FnWavesAscendingSaid : Prop := fnWavesAscendingRow.holds Tryd.pinned (OpenSpec.ofChange fnWavesAscendingSpec)

/-- ITS FALSE NEIGHBOUR: 'it returns false'. Refute it at one input. -/
def fnWavesAscendingWrong : ChangeSpec := { name := "fnWavesAscending", vars := ["loop.example/dagconsensus/impl.errInvalid", "loop.example/dagconsensus/impl.errNoWave", "loop.example/dagconsensus/impl.errNoVertex"], fn := fun _ => fun
  | [d, g1, g2, g3] => { results := [.lit (.bool false)], args := [d], vars := [g1, g2, g3] }
  | _ => none }
def FnWavesAscendingWrongFalsely : Prop := fnWavesAscendingRow.holds Tryd.pinned (OpenSpec.ofChange fnWavesAscendingWrong)

/-- 'laws.FnWavesLinked': WHATEVER THE INPUT: true; the input reads as it did. -/
def fnWavesLinkedSpec : ChangeSpec := { name := "fnWavesLinked", vars := ["loop.example/dagconsensus/impl.errInvalid", "loop.example/dagconsensus/impl.errNoWave", "loop.example/dagconsensus/impl.errNoVertex"], fn := fun _ => fun
  | [d, g1, g2, g3] => { results := [.lit (.bool true)], args := [d], vars := [g1, g2, g3] }
  | _ => none }
def fnWavesLinkedRow : OpenClaim := { program := "ytenflffikgfphaadoor", sum := "124be3427d28b851fc53df9d7eb8f9ee860fdb6bd3ef34a51852b57b2d8cb86e", func := "loop.example/dagconsensus/laws.FnWavesLinked", spec := "fnWavesLinked", inPlace := ["internal/reflectlite.TypeOf"], unfollowed := true, recurses := true, named := ["loop.example/dagconsensus/impl.errInvalid", "loop.example/dagconsensus/impl.errNoWave", "loop.example/dagconsensus/impl.errNoVertex"], ifaces := true, apart := false, laid := [("loop.example/dagconsensus/impl.errInvalid", laid_loop_example_dagconsensus_impl_errInvalid), ("loop.example/dagconsensus/impl.errNoWave", laid_loop_example_dagconsensus_impl_errNoWave), ("loop.example/dagconsensus/impl.errNoVertex", laid_loop_example_dagconsensus_impl_errNoVertex)] }
def FnWavesLinkedSaid : Prop := fnWavesLinkedRow.holds Tryd.pinned (OpenSpec.ofChange fnWavesLinkedSpec)

/-- ITS FALSE NEIGHBOUR: 'it returns false'. Refute it at one input. -/
def fnWavesLinkedWrong : ChangeSpec := { name := "fnWavesLinked", vars := ["loop.example/dagconsensus/impl.errInvalid", "loop.example/dagconsensus/impl.errNoWave", "loop.example/dagconsensus/impl.errNoVertex"], fn := fun _ => fun
  | [d, g1, g2, g3] => { results := [.lit (.bool false)], args := [d], vars := [g1, g2, g3] }
  | _ => none }
def FnWavesLinkedWrongFalsely : Prop := fnWavesLinkedRow.holds Tryd.pinned (OpenSpec.ofChange fnWavesLinkedWrong)

/-- 'laws.FnWavesAgree': WHATEVER THE INPUT: true; the input reads as it did. -/
def fnWavesAgreeSpec : ChangeSpec := { name := "fnWavesAgree", vars := ["loop.example/dagconsensus/impl.errInvalid", "loop.example/dagconsensus/impl.errNoWave", "loop.example/dagconsensus/impl.errNoVertex"], fn := fun _ => fun
  | [d1, d2, g1, g2, g3] => { results := [.lit (.bool true)], args := [d1, d2], vars := [g1, g2, g3] }
  | _ => none }
def fnWavesAgreeRow : OpenClaim := { program := "ytenflffikgfphaadoor", sum := "124be3427d28b851fc53df9d7eb8f9ee860fdb6bd3ef34a51852b57b2d8cb86e", func := "loop.example/dagconsensus/laws.FnWavesAgree", spec := "fnWavesAgree", inPlace := ["internal/reflectlite.TypeOf"], unfollowed := true, recurses := true, named := ["loop.example/dagconsensus/impl.errInvalid", "loop.example/dagconsensus/impl.errNoWave", "loop.example/dagconsensus/impl.errNoVertex"], ifaces := true, apart := false, laid := [("loop.example/dagconsensus/impl.errInvalid", laid_loop_example_dagconsensus_impl_errInvalid), ("loop.example/dagconsensus/impl.errNoWave", laid_loop_example_dagconsensus_impl_errNoWave), ("loop.example/dagconsensus/impl.errNoVertex", laid_loop_example_dagconsensus_impl_errNoVertex)] }
def FnWavesAgreeSaid : Prop := fnWavesAgreeRow.holds Tryd.pinned (OpenSpec.ofChange fnWavesAgreeSpec)

/-- ITS FALSE NEIGHBOUR: 'it returns false'. Refute it at one input. -/
def fnWavesAgreeWrong : ChangeSpec := { name := "fnWavesAgree", vars := ["loop.example/dagconsensus/impl.errInvalid", "loop.example/dagconsensus/impl.errNoWave", "loop.example/dagconsensus/impl.errNoVertex"], fn := fun _ => fun
  | [d1, d2, g1, g2, g3] => { results := [.lit (.bool false)], args := [d1, d2], vars := [g1, g2, g3] }
  | _ => none }
def FnWavesAgreeWrongFalsely : Prop := fnWavesAgreeRow.holds Tryd.pinned (OpenSpec.ofChange fnWavesAgreeWrong)

/-- 'laws.FnWavesGrow': WHATEVER THE INPUT: true; the input reads as it did. -/
def fnWavesGrowSpec : ChangeSpec := { name := "fnWavesGrow", vars := ["loop.example/dagconsensus/impl.errInvalid", "loop.example/dagconsensus/impl.errNoWave", "loop.example/dagconsensus/impl.errNoVertex"], fn := fun _ => fun
  | [d1, d2, g1, g2, g3] => { results := [.lit (.bool true)], args := [d1, d2], vars := [g1, g2, g3] }
  | _ => none }
def fnWavesGrowRow : OpenClaim := { program := "ytenflffikgfphaadoor", sum := "124be3427d28b851fc53df9d7eb8f9ee860fdb6bd3ef34a51852b57b2d8cb86e", func := "loop.example/dagconsensus/laws.FnWavesGrow", spec := "fnWavesGrow", inPlace := ["internal/reflectlite.TypeOf"], unfollowed := true, recurses := true, named := ["loop.example/dagconsensus/impl.errInvalid", "loop.example/dagconsensus/impl.errNoWave", "loop.example/dagconsensus/impl.errNoVertex"], ifaces := true, apart := false, laid := [("loop.example/dagconsensus/impl.errInvalid", laid_loop_example_dagconsensus_impl_errInvalid), ("loop.example/dagconsensus/impl.errNoWave", laid_loop_example_dagconsensus_impl_errNoWave), ("loop.example/dagconsensus/impl.errNoVertex", laid_loop_example_dagconsensus_impl_errNoVertex)] }
def FnWavesGrowSaid : Prop := fnWavesGrowRow.holds Tryd.pinned (OpenSpec.ofChange fnWavesGrowSpec)

/-- ITS FALSE NEIGHBOUR: 'it returns false'. Refute it at one input. -/
def fnWavesGrowWrong : ChangeSpec := { name := "fnWavesGrow", vars := ["loop.example/dagconsensus/impl.errInvalid", "loop.example/dagconsensus/impl.errNoWave", "loop.example/dagconsensus/impl.errNoVertex"], fn := fun _ => fun
  | [d1, d2, g1, g2, g3] => { results := [.lit (.bool false)], args := [d1, d2], vars := [g1, g2, g3] }
  | _ => none }
def FnWavesGrowWrongFalsely : Prop := fnWavesGrowRow.holds Tryd.pinned (OpenSpec.ofChange fnWavesGrowWrong)

/-- 'laws.FnWavesReach': WHATEVER THE INPUT: true; the input reads as it did. -/
def fnWavesReachSpec : ChangeSpec := { name := "fnWavesReach", vars := ["loop.example/dagconsensus/impl.errInvalid", "loop.example/dagconsensus/impl.errNoWave", "loop.example/dagconsensus/impl.errNoVertex"], fn := fun _ => fun
  | [d1, d2, g1, g2, g3] => { results := [.lit (.bool true)], args := [d1, d2], vars := [g1, g2, g3] }
  | _ => none }
def fnWavesReachRow : OpenClaim := { program := "ytenflffikgfphaadoor", sum := "124be3427d28b851fc53df9d7eb8f9ee860fdb6bd3ef34a51852b57b2d8cb86e", func := "loop.example/dagconsensus/laws.FnWavesReach", spec := "fnWavesReach", inPlace := ["internal/reflectlite.TypeOf"], unfollowed := true, recurses := true, named := ["loop.example/dagconsensus/impl.errInvalid", "loop.example/dagconsensus/impl.errNoWave", "loop.example/dagconsensus/impl.errNoVertex"], ifaces := true, apart := false, laid := [("loop.example/dagconsensus/impl.errInvalid", laid_loop_example_dagconsensus_impl_errInvalid), ("loop.example/dagconsensus/impl.errNoWave", laid_loop_example_dagconsensus_impl_errNoWave), ("loop.example/dagconsensus/impl.errNoVertex", laid_loop_example_dagconsensus_impl_errNoVertex)] }
def FnWavesReachSaid : Prop := fnWavesReachRow.holds Tryd.pinned (OpenSpec.ofChange fnWavesReachSpec)

/-- ITS FALSE NEIGHBOUR: 'it returns false'. Refute it at one input. -/
def fnWavesReachWrong : ChangeSpec := { name := "fnWavesReach", vars := ["loop.example/dagconsensus/impl.errInvalid", "loop.example/dagconsensus/impl.errNoWave", "loop.example/dagconsensus/impl.errNoVertex"], fn := fun _ => fun
  | [d1, d2, g1, g2, g3] => { results := [.lit (.bool false)], args := [d1, d2], vars := [g1, g2, g3] }
  | _ => none }
def FnWavesReachWrongFalsely : Prop := fnWavesReachRow.holds Tryd.pinned (OpenSpec.ofChange fnWavesReachWrong)

/- THE SECOND FORM. 'bulk': how many values and letters a reading holds, each counted each time it is reached (what is shared counts as often as it is met; a slice's spare places count too). A statement '..UptoSaid' is the law's where the arguments, and the package variables that the reading takes, are together of bulk at most 1048576: NARROWER than '..Said'. Prove '..Said' where nothing that the law and all that it calls make is longer than what came in: it says more and counts as full. Else prove '..UptoSaid'. A law counts once. -/
mutual
def uptoBulk {H : Type} : DataW H → Nat
  | .lit (.string bytes) => bytes.length + 1
  | .lit _ => 1
  | .nil => 1
  | .ptr d => uptoBulk d + 1
  | .slice elems spare => uptoBulkAll elems + uptoBulkAll spare + 1
  | .agg parts => uptoBulkAll parts + 1
  | .iface _ d => uptoBulk d + 1
  | .map entries => uptoBulkEntries entries + 1
  | .held _ => 1
def uptoBulkAll {H : Type} : List (DataW H) → Nat
  | [] => 0
  | d :: r => uptoBulk d + uptoBulkAll r
def uptoBulkEntries {H : Type} : List (Lit × DataW H) → Nat
  | [] => 0
  | x :: r => uptoBulkEntry x + uptoBulkEntries r
def uptoBulkEntry {H : Type} : Lit × DataW H → Nat
  | (.string bytes, d) => bytes.length + uptoBulk d + 1
  | (_, d) => uptoBulk d + 1
 end
def uptoSmall : (H : Type) → List (DataW H) → Bool := fun _ ds => decide (uptoBulkAll ds ≤ 1048576)
def OpenSpec.upto (s : _root_.Go.ChangeSpec) : _root_.Go.OpenSpec := { _root_.Go.OpenSpec.ofChange s with cond := some uptoSmall }

/-- 'laws.FnWavesLeaders', WHERE WHAT IT READS IS OF BULK AT MOST 1048576: true; the input reads as it did. -/
def fnWavesLeadersUptoRow : OpenClaim := { program := "ytenflffikgfphaadoor", sum := "124be3427d28b851fc53df9d7eb8f9ee860fdb6bd3ef34a51852b57b2d8cb86e", func := "loop.example/dagconsensus/laws.FnWavesLeaders", spec := "fnWavesLeaders", inPlace := ["internal/reflectlite.TypeOf"], unfollowed := true, recurses := true, named := ["loop.example/dagconsensus/impl.errInvalid", "loop.example/dagconsensus/impl.errNoWave", "loop.example/dagconsensus/impl.errNoVertex"], ifaces := true, apart := false, laid := [("loop.example/dagconsensus/impl.errInvalid", laid_loop_example_dagconsensus_impl_errInvalid), ("loop.example/dagconsensus/impl.errNoWave", laid_loop_example_dagconsensus_impl_errNoWave), ("loop.example/dagconsensus/impl.errNoVertex", laid_loop_example_dagconsensus_impl_errNoVertex)], narrowed := true }
def FnWavesLeadersUptoSaid : Prop := fnWavesLeadersUptoRow.holds Tryd.pinned (OpenSpec.upto fnWavesLeadersSpec)

/-- 'laws.FnWavesDirect', WHERE WHAT IT READS IS OF BULK AT MOST 1048576: true; the input reads as it did. -/
def fnWavesDirectUptoRow : OpenClaim := { program := "ytenflffikgfphaadoor", sum := "124be3427d28b851fc53df9d7eb8f9ee860fdb6bd3ef34a51852b57b2d8cb86e", func := "loop.example/dagconsensus/laws.FnWavesDirect", spec := "fnWavesDirect", inPlace := ["internal/reflectlite.TypeOf"], unfollowed := true, recurses := true, named := ["loop.example/dagconsensus/impl.errInvalid", "loop.example/dagconsensus/impl.errNoWave", "loop.example/dagconsensus/impl.errNoVertex"], ifaces := true, apart := false, laid := [("loop.example/dagconsensus/impl.errInvalid", laid_loop_example_dagconsensus_impl_errInvalid), ("loop.example/dagconsensus/impl.errNoWave", laid_loop_example_dagconsensus_impl_errNoWave), ("loop.example/dagconsensus/impl.errNoVertex", laid_loop_example_dagconsensus_impl_errNoVertex)], narrowed := true }
def FnWavesDirectUptoSaid : Prop := fnWavesDirectUptoRow.holds Tryd.pinned (OpenSpec.upto fnWavesDirectSpec)

/-- 'laws.FnWavesAscending', WHERE WHAT IT READS IS OF BULK AT MOST 1048576: true; the input reads as it did. -/
def fnWavesAscendingUptoRow : OpenClaim := { program := "ytenflffikgfphaadoor", sum := "124be3427d28b851fc53df9d7eb8f9ee860fdb6bd3ef34a51852b57b2d8cb86e", func := "loop.example/dagconsensus/laws.FnWavesAscending", spec := "fnWavesAscending", inPlace := ["internal/reflectlite.TypeOf"], unfollowed := true, recurses := true, named := ["loop.example/dagconsensus/impl.errInvalid", "loop.example/dagconsensus/impl.errNoWave", "loop.example/dagconsensus/impl.errNoVertex"], ifaces := true, apart := false, laid := [("loop.example/dagconsensus/impl.errInvalid", laid_loop_example_dagconsensus_impl_errInvalid), ("loop.example/dagconsensus/impl.errNoWave", laid_loop_example_dagconsensus_impl_errNoWave), ("loop.example/dagconsensus/impl.errNoVertex", laid_loop_example_dagconsensus_impl_errNoVertex)], narrowed := true }
def FnWavesAscendingUptoSaid : Prop := fnWavesAscendingUptoRow.holds Tryd.pinned (OpenSpec.upto fnWavesAscendingSpec)

/-- 'laws.FnWavesLinked', WHERE WHAT IT READS IS OF BULK AT MOST 1048576: true; the input reads as it did. -/
def fnWavesLinkedUptoRow : OpenClaim := { program := "ytenflffikgfphaadoor", sum := "124be3427d28b851fc53df9d7eb8f9ee860fdb6bd3ef34a51852b57b2d8cb86e", func := "loop.example/dagconsensus/laws.FnWavesLinked", spec := "fnWavesLinked", inPlace := ["internal/reflectlite.TypeOf"], unfollowed := true, recurses := true, named := ["loop.example/dagconsensus/impl.errInvalid", "loop.example/dagconsensus/impl.errNoWave", "loop.example/dagconsensus/impl.errNoVertex"], ifaces := true, apart := false, laid := [("loop.example/dagconsensus/impl.errInvalid", laid_loop_example_dagconsensus_impl_errInvalid), ("loop.example/dagconsensus/impl.errNoWave", laid_loop_example_dagconsensus_impl_errNoWave), ("loop.example/dagconsensus/impl.errNoVertex", laid_loop_example_dagconsensus_impl_errNoVertex)], narrowed := true }
def FnWavesLinkedUptoSaid : Prop := fnWavesLinkedUptoRow.holds Tryd.pinned (OpenSpec.upto fnWavesLinkedSpec)

/-- 'laws.FnWavesAgree', WHERE WHAT IT READS IS OF BULK AT MOST 1048576: true; the input reads as it did. -/
def fnWavesAgreeUptoRow : OpenClaim := { program := "ytenflffikgfphaadoor", sum := "124be3427d28b851fc53df9d7eb8f9ee860fdb6bd3ef34a51852b57b2d8cb86e", func := "loop.example/dagconsensus/laws.FnWavesAgree", spec := "fnWavesAgree", inPlace := ["internal/reflectlite.TypeOf"], unfollowed := true, recurses := true, named := ["loop.example/dagconsensus/impl.errInvalid", "loop.example/dagconsensus/impl.errNoWave", "loop.example/dagconsensus/impl.errNoVertex"], ifaces := true, apart := false, laid := [("loop.example/dagconsensus/impl.errInvalid", laid_loop_example_dagconsensus_impl_errInvalid), ("loop.example/dagconsensus/impl.errNoWave", laid_loop_example_dagconsensus_impl_errNoWave), ("loop.example/dagconsensus/impl.errNoVertex", laid_loop_example_dagconsensus_impl_errNoVertex)], narrowed := true }
def FnWavesAgreeUptoSaid : Prop := fnWavesAgreeUptoRow.holds Tryd.pinned (OpenSpec.upto fnWavesAgreeSpec)

/-- 'laws.FnWavesGrow', WHERE WHAT IT READS IS OF BULK AT MOST 1048576: true; the input reads as it did. -/
def fnWavesGrowUptoRow : OpenClaim := { program := "ytenflffikgfphaadoor", sum := "124be3427d28b851fc53df9d7eb8f9ee860fdb6bd3ef34a51852b57b2d8cb86e", func := "loop.example/dagconsensus/laws.FnWavesGrow", spec := "fnWavesGrow", inPlace := ["internal/reflectlite.TypeOf"], unfollowed := true, recurses := true, named := ["loop.example/dagconsensus/impl.errInvalid", "loop.example/dagconsensus/impl.errNoWave", "loop.example/dagconsensus/impl.errNoVertex"], ifaces := true, apart := false, laid := [("loop.example/dagconsensus/impl.errInvalid", laid_loop_example_dagconsensus_impl_errInvalid), ("loop.example/dagconsensus/impl.errNoWave", laid_loop_example_dagconsensus_impl_errNoWave), ("loop.example/dagconsensus/impl.errNoVertex", laid_loop_example_dagconsensus_impl_errNoVertex)], narrowed := true }
def FnWavesGrowUptoSaid : Prop := fnWavesGrowUptoRow.holds Tryd.pinned (OpenSpec.upto fnWavesGrowSpec)

/-- 'laws.FnWavesReach', WHERE WHAT IT READS IS OF BULK AT MOST 1048576: true; the input reads as it did. -/
def fnWavesReachUptoRow : OpenClaim := { program := "ytenflffikgfphaadoor", sum := "124be3427d28b851fc53df9d7eb8f9ee860fdb6bd3ef34a51852b57b2d8cb86e", func := "loop.example/dagconsensus/laws.FnWavesReach", spec := "fnWavesReach", inPlace := ["internal/reflectlite.TypeOf"], unfollowed := true, recurses := true, named := ["loop.example/dagconsensus/impl.errInvalid", "loop.example/dagconsensus/impl.errNoWave", "loop.example/dagconsensus/impl.errNoVertex"], ifaces := true, apart := false, laid := [("loop.example/dagconsensus/impl.errInvalid", laid_loop_example_dagconsensus_impl_errInvalid), ("loop.example/dagconsensus/impl.errNoWave", laid_loop_example_dagconsensus_impl_errNoWave), ("loop.example/dagconsensus/impl.errNoVertex", laid_loop_example_dagconsensus_impl_errNoVertex)], narrowed := true }
def FnWavesReachUptoSaid : Prop := fnWavesReachUptoRow.holds Tryd.pinned (OpenSpec.upto fnWavesReachSpec)

end Rows
end Go.Proofs.YtenflffikgfphaaDoor
