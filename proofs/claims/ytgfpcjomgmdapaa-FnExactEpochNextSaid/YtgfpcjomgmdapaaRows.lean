/-
  No cell of these rows narrows 'for every input' (looked for: loops, veiled, ifaces, maps, wideKeys, modest, calm, conditions, laid).
  DERIVED. THE GIVEN ROWS OF THIS SEAT. 4 by the template 'for every input the law returns true; each argument reads behind the call as it read before'; 0 by the template 'total and deterministic' (their statements: YtgfpcjomgmdapaaTotals.lean).
  GIVEN WITH THE SEED: the statements are not yours to turn. If you find one false, say at which input.
  Laid BY PROGRAM, IN A SANDBOX (cutbox-rows.mjs): the forced cells as the released guide's own fill.sh prints them over the translation 3892f042b0789980… (all of the seat's roots in one cut). By AI agents, Wed Nov 11 2026. No macro, syntax, notation, axiom, sorry.
-/
import Derived.Test.YtgfpcjomgmdapaaChecked
import GoSem.Claim
import GoSem.ClaimJoined
import GoSem.ClaimMapViews
import Derived.JoinedTies
import Derived.KernelRfl
namespace Go.Proofs.Ytgfpcjomgmdapaa
/- THE CELL 'sum', in the pinned program and in every row, IS THE sha256 OF THE DUMP (.gsa) THAT YtgfpcjomgmdapaaProg.lean LOADS. Nothing in Lean hashes anything: it is a label: what it is worth is what the hold of that sum in a sandbox is worth. -/
noncomputable def Try.pinned : Pinned := { name := "ytgfpcjomgmdapaa", sum := "3892f042b0789980cebf2e53fb2d1aa58db98ea48d8f94ad6e8d1cc107c8ba13", checked := Try.checked }
namespace Rows
def none {H : Type} : Left H := { results := [], args := [] }

/-- 'laws.FnExactEpochNext': WHATEVER THE INPUT: true; the input reads as it did. -/
def fnExactEpochNextSpec : ChangeSpec := { name := "fnExactEpochNext", fn := fun _ => fun
  | [d1, d2, d3, d4] => { results := [.lit (.bool true)], args := [d1, d2, d3, d4] }
  | _ => none }
def fnExactEpochNextRow : OpenClaim := { program := "ytgfpcjomgmdapaa", sum := "3892f042b0789980cebf2e53fb2d1aa58db98ea48d8f94ad6e8d1cc107c8ba13", func := "loop.example/dagconsensus/laws.FnExactEpochNext", spec := "fnExactEpochNext", unfollowed := true, recurses := true, apart := false }
def FnExactEpochNextSaid : Prop := fnExactEpochNextRow.holds Try.pinned (OpenSpec.ofChange fnExactEpochNextSpec)

/-- ITS FALSE NEIGHBOUR: 'it returns false'. Refute it at one input. -/
def fnExactEpochNextWrong : ChangeSpec := { name := "fnExactEpochNext", fn := fun _ => fun
  | [d1, d2, d3, d4] => { results := [.lit (.bool false)], args := [d1, d2, d3, d4] }
  | _ => none }
def FnExactEpochNextWrongFalsely : Prop := fnExactEpochNextRow.holds Try.pinned (OpenSpec.ofChange fnExactEpochNextWrong)

/-- 'laws.FnEpochSame': WHATEVER THE INPUT: true; the input reads as it did. -/
def fnEpochSameSpec : ChangeSpec := { name := "fnEpochSame", fn := fun _ => fun
  | [d] => { results := [.lit (.bool true)], args := [d] }
  | _ => none }
def fnEpochSameRow : OpenClaim := { program := "ytgfpcjomgmdapaa", sum := "3892f042b0789980cebf2e53fb2d1aa58db98ea48d8f94ad6e8d1cc107c8ba13", func := "loop.example/dagconsensus/laws.FnEpochSame", spec := "fnEpochSame", unfollowed := true, recurses := true, apart := false }
def FnEpochSameSaid : Prop := fnEpochSameRow.holds Try.pinned (OpenSpec.ofChange fnEpochSameSpec)

/-- ITS FALSE NEIGHBOUR: 'it returns false'. Refute it at one input. -/
def fnEpochSameWrong : ChangeSpec := { name := "fnEpochSame", fn := fun _ => fun
  | [d] => { results := [.lit (.bool false)], args := [d] }
  | _ => none }
def FnEpochSameWrongFalsely : Prop := fnEpochSameRow.holds Try.pinned (OpenSpec.ofChange fnEpochSameWrong)

/-- 'laws.FnEpochNext': WHATEVER THE INPUT: true; the input reads as it did. -/
def fnEpochNextSpec : ChangeSpec := { name := "fnEpochNext", fn := fun _ => fun
  | [d] => { results := [.lit (.bool true)], args := [d] }
  | _ => none }
def fnEpochNextRow : OpenClaim := { program := "ytgfpcjomgmdapaa", sum := "3892f042b0789980cebf2e53fb2d1aa58db98ea48d8f94ad6e8d1cc107c8ba13", func := "loop.example/dagconsensus/laws.FnEpochNext", spec := "fnEpochNext", unfollowed := true, recurses := true, apart := false }
def FnEpochNextSaid : Prop := fnEpochNextRow.holds Try.pinned (OpenSpec.ofChange fnEpochNextSpec)

/-- ITS FALSE NEIGHBOUR: 'it returns false'. Refute it at one input. -/
def fnEpochNextWrong : ChangeSpec := { name := "fnEpochNext", fn := fun _ => fun
  | [d] => { results := [.lit (.bool false)], args := [d] }
  | _ => none }
def FnEpochNextWrongFalsely : Prop := fnEpochNextRow.holds Try.pinned (OpenSpec.ofChange fnEpochNextWrong)

/-- 'laws.FnEpochGuilty': WHATEVER THE INPUT: true; the input reads as it did. -/
def fnEpochGuiltySpec : ChangeSpec := { name := "fnEpochGuilty", fn := fun _ => fun
  | [d] => { results := [.lit (.bool true)], args := [d] }
  | _ => none }
def fnEpochGuiltyRow : OpenClaim := { program := "ytgfpcjomgmdapaa", sum := "3892f042b0789980cebf2e53fb2d1aa58db98ea48d8f94ad6e8d1cc107c8ba13", func := "loop.example/dagconsensus/laws.FnEpochGuilty", spec := "fnEpochGuilty", unfollowed := true, recurses := true, apart := false }
def FnEpochGuiltySaid : Prop := fnEpochGuiltyRow.holds Try.pinned (OpenSpec.ofChange fnEpochGuiltySpec)

/-- ITS FALSE NEIGHBOUR: 'it returns false'. Refute it at one input. -/
def fnEpochGuiltyWrong : ChangeSpec := { name := "fnEpochGuilty", fn := fun _ => fun
  | [d] => { results := [.lit (.bool false)], args := [d] }
  | _ => none }
def FnEpochGuiltyWrongFalsely : Prop := fnEpochGuiltyRow.holds Try.pinned (OpenSpec.ofChange fnEpochGuiltyWrong)

/- THE SECOND FORM. 'bulk': how many values and letters a reading holds, each counted each time it is reached (what is shared counts as often as it is met; a slice's spare places count too). A statement '..UptoSaid' is the law's where the arguments, and the package variables that the reading takes, are together of bulk at most 1048576: NARROWER than '..Said'. Prove '..Said' where nothing that the law and all that it calls make is longer than what came in: it says more and counts as full. Else prove '..UptoSaid'. A law counts once. -/
mutual
def uptoBulk {H : Type} : DataW H → Nat
  | .lit (.string bytes) => bytes.length + 1
  | .lit _ => 1
  | .nil => 1
  | .ptr d => uptoBulk d + 1
  | .slice elems spare => uptoBulkAll elems + uptoBulkAll spare + 1
  | .agg parts => uptoBulkAll parts + 1
  | .iface _ d => uptoBulk d + 1
  | .map entries => uptoBulkEntries entries + 1
  | .held _ => 1
def uptoBulkAll {H : Type} : List (DataW H) → Nat
  | [] => 0
  | d :: r => uptoBulk d + uptoBulkAll r
def uptoBulkEntries {H : Type} : List (Lit × DataW H) → Nat
  | [] => 0
  | x :: r => uptoBulkEntry x + uptoBulkEntries r
def uptoBulkEntry {H : Type} : Lit × DataW H → Nat
  | (.string bytes, d) => bytes.length + uptoBulk d + 1
  | (_, d) => uptoBulk d + 1
 end
def uptoSmall : (H : Type) → List (DataW H) → Bool := fun _ ds => decide (uptoBulkAll ds ≤ 1048576)
def OpenSpec.upto (s : _root_.Go.ChangeSpec) : _root_.Go.OpenSpec := { _root_.Go.OpenSpec.ofChange s with cond := some uptoSmall }

/-- 'laws.FnExactEpochNext', WHERE WHAT IT READS IS OF BULK AT MOST 1048576: true; the input reads as it did. -/
def fnExactEpochNextUptoRow : OpenClaim := { program := "ytgfpcjomgmdapaa", sum := "3892f042b0789980cebf2e53fb2d1aa58db98ea48d8f94ad6e8d1cc107c8ba13", func := "loop.example/dagconsensus/laws.FnExactEpochNext", spec := "fnExactEpochNext", unfollowed := true, recurses := true, apart := false, narrowed := true }
def FnExactEpochNextUptoSaid : Prop := fnExactEpochNextUptoRow.holds Try.pinned (OpenSpec.upto fnExactEpochNextSpec)

/-- 'laws.FnEpochSame', WHERE WHAT IT READS IS OF BULK AT MOST 1048576: true; the input reads as it did. -/
def fnEpochSameUptoRow : OpenClaim := { program := "ytgfpcjomgmdapaa", sum := "3892f042b0789980cebf2e53fb2d1aa58db98ea48d8f94ad6e8d1cc107c8ba13", func := "loop.example/dagconsensus/laws.FnEpochSame", spec := "fnEpochSame", unfollowed := true, recurses := true, apart := false, narrowed := true }
def FnEpochSameUptoSaid : Prop := fnEpochSameUptoRow.holds Try.pinned (OpenSpec.upto fnEpochSameSpec)

/-- 'laws.FnEpochNext', WHERE WHAT IT READS IS OF BULK AT MOST 1048576: true; the input reads as it did. -/
def fnEpochNextUptoRow : OpenClaim := { program := "ytgfpcjomgmdapaa", sum := "3892f042b0789980cebf2e53fb2d1aa58db98ea48d8f94ad6e8d1cc107c8ba13", func := "loop.example/dagconsensus/laws.FnEpochNext", spec := "fnEpochNext", unfollowed := true, recurses := true, apart := false, narrowed := true }
def FnEpochNextUptoSaid : Prop := fnEpochNextUptoRow.holds Try.pinned (OpenSpec.upto fnEpochNextSpec)

/-- 'laws.FnEpochGuilty', WHERE WHAT IT READS IS OF BULK AT MOST 1048576: true; the input reads as it did. -/
def fnEpochGuiltyUptoRow : OpenClaim := { program := "ytgfpcjomgmdapaa", sum := "3892f042b0789980cebf2e53fb2d1aa58db98ea48d8f94ad6e8d1cc107c8ba13", func := "loop.example/dagconsensus/laws.FnEpochGuilty", spec := "fnEpochGuilty", unfollowed := true, recurses := true, apart := false, narrowed := true }
def FnEpochGuiltyUptoSaid : Prop := fnEpochGuiltyUptoRow.holds Try.pinned (OpenSpec.upto fnEpochGuiltySpec)

end Rows
end Go.Proofs.Ytgfpcjomgmdapaa
