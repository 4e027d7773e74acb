/-
  No cell of these rows narrows 'for every input' (looked for: loops, veiled, ifaces, maps, wideKeys, modest, calm, conditions, laid).
  DERIVED. THE GIVEN ROWS OF THIS SEAT. 9 by the template 'for every input the law returns true; each argument reads behind the call as it read before'; 0 by the template 'total and deterministic' (their statements: YthplhhilhfpcaaaTotals.lean).
  GIVEN WITH THE SEED: the statements are not yours to turn. If you find one false, say at which input.
  Laid BY PROGRAM, IN A SANDBOX (cutbox-rows.mjs): the forced cells as the released guide's own fill.sh prints them over the translation ea398fc111a7d209… (all of the seat's roots in one cut). By AI agents, Wed Nov 11 2026. No macro, syntax, notation, axiom, sorry.
-/
import Derived.Test.YthplhhilhfpcaaaChecked
import GoSem.Claim
import GoSem.ClaimJoined
import GoSem.ClaimMapViews
import Derived.JoinedTies
import Derived.KernelRfl
namespace Go.Proofs.Ythplhhilhfpcaaa
/- THE CELL 'sum', in the pinned program and in every row, IS THE sha256 OF THE DUMP (.gsa) THAT YthplhhilhfpcaaaProg.lean LOADS. Nothing in Lean hashes anything: it is a label: what it is worth is what the hold of that sum in a sandbox is worth. -/
noncomputable def Try.pinned : Pinned := { name := "ythplhhilhfpcaaa", sum := "ea398fc111a7d20944593e710cf033ca9c714332d52bbcec0c52ba3c9d32aa0b", checked := Try.checked }
namespace Rows
def none {H : Type} : Left H := { results := [], args := [] }

/-- 'laws.FnExactEpochValid': WHATEVER THE INPUT: true; the input reads as it did. -/
def fnExactEpochValidSpec : ChangeSpec := { name := "fnExactEpochValid", fn := fun _ => fun
  | [d] => { results := [.lit (.bool true)], args := [d] }
  | _ => none }
def fnExactEpochValidRow : OpenClaim := { program := "ythplhhilhfpcaaa", sum := "ea398fc111a7d20944593e710cf033ca9c714332d52bbcec0c52ba3c9d32aa0b", func := "loop.example/dagconsensus/laws.FnExactEpochValid", spec := "fnExactEpochValid", apart := false }
def FnExactEpochValidSaid : Prop := fnExactEpochValidRow.holds Try.pinned (OpenSpec.ofChange fnExactEpochValidSpec)

/-- ITS FALSE NEIGHBOUR: 'it returns false'. Refute it at one input. -/
def fnExactEpochValidWrong : ChangeSpec := { name := "fnExactEpochValid", fn := fun _ => fun
  | [d] => { results := [.lit (.bool false)], args := [d] }
  | _ => none }
def FnExactEpochValidWrongFalsely : Prop := fnExactEpochValidRow.holds Try.pinned (OpenSpec.ofChange fnExactEpochValidWrong)

/-- 'laws.FnLedgerApply': WHATEVER THE INPUT: true; the input reads as it did. -/
def fnLedgerApplySpec : ChangeSpec := { name := "fnLedgerApply", fn := fun _ => fun
  | [d] => { results := [.lit (.bool true)], args := [d] }
  | _ => none }
def fnLedgerApplyRow : OpenClaim := { program := "ythplhhilhfpcaaa", sum := "ea398fc111a7d20944593e710cf033ca9c714332d52bbcec0c52ba3c9d32aa0b", func := "loop.example/dagconsensus/laws.FnLedgerApply", spec := "fnLedgerApply", apart := false }
def FnLedgerApplySaid : Prop := fnLedgerApplyRow.holds Try.pinned (OpenSpec.ofChange fnLedgerApplySpec)

/-- ITS FALSE NEIGHBOUR: 'it returns false'. Refute it at one input. -/
def fnLedgerApplyWrong : ChangeSpec := { name := "fnLedgerApply", fn := fun _ => fun
  | [d] => { results := [.lit (.bool false)], args := [d] }
  | _ => none }
def FnLedgerApplyWrongFalsely : Prop := fnLedgerApplyRow.holds Try.pinned (OpenSpec.ofChange fnLedgerApplyWrong)

/-- 'laws.FnLedgerBack': WHATEVER THE INPUT: true; the input reads as it did. -/
def fnLedgerBackSpec : ChangeSpec := { name := "fnLedgerBack", fn := fun _ => fun
  | [d] => { results := [.lit (.bool true)], args := [d] }
  | _ => none }
def fnLedgerBackRow : OpenClaim := { program := "ythplhhilhfpcaaa", sum := "ea398fc111a7d20944593e710cf033ca9c714332d52bbcec0c52ba3c9d32aa0b", func := "loop.example/dagconsensus/laws.FnLedgerBack", spec := "fnLedgerBack", apart := false }
def FnLedgerBackSaid : Prop := fnLedgerBackRow.holds Try.pinned (OpenSpec.ofChange fnLedgerBackSpec)

/-- ITS FALSE NEIGHBOUR: 'it returns false'. Refute it at one input. -/
def fnLedgerBackWrong : ChangeSpec := { name := "fnLedgerBack", fn := fun _ => fun
  | [d] => { results := [.lit (.bool false)], args := [d] }
  | _ => none }
def FnLedgerBackWrongFalsely : Prop := fnLedgerBackRow.holds Try.pinned (OpenSpec.ofChange fnLedgerBackWrong)

/-- 'laws.FnLedgerFail': WHATEVER THE INPUT: true; the input reads as it did. -/
def fnLedgerFailSpec : ChangeSpec := { name := "fnLedgerFail", fn := fun _ => fun
  | [d] => { results := [.lit (.bool true)], args := [d] }
  | _ => none }
def fnLedgerFailRow : OpenClaim := { program := "ythplhhilhfpcaaa", sum := "ea398fc111a7d20944593e710cf033ca9c714332d52bbcec0c52ba3c9d32aa0b", func := "loop.example/dagconsensus/laws.FnLedgerFail", spec := "fnLedgerFail", apart := false }
def FnLedgerFailSaid : Prop := fnLedgerFailRow.holds Try.pinned (OpenSpec.ofChange fnLedgerFailSpec)

/-- ITS FALSE NEIGHBOUR: 'it returns false'. Refute it at one input. -/
def fnLedgerFailWrong : ChangeSpec := { name := "fnLedgerFail", fn := fun _ => fun
  | [d] => { results := [.lit (.bool false)], args := [d] }
  | _ => none }
def FnLedgerFailWrongFalsely : Prop := fnLedgerFailRow.holds Try.pinned (OpenSpec.ofChange fnLedgerFailWrong)

/-- 'laws.FnEpochValid': WHATEVER THE INPUT: true; the input reads as it did. -/
def fnEpochValidSpec : ChangeSpec := { name := "fnEpochValid", fn := fun _ => fun
  | [d1, d2] => { results := [.lit (.bool true)], args := [d1, d2] }
  | _ => none }
def fnEpochValidRow : OpenClaim := { program := "ythplhhilhfpcaaa", sum := "ea398fc111a7d20944593e710cf033ca9c714332d52bbcec0c52ba3c9d32aa0b", func := "loop.example/dagconsensus/laws.FnEpochValid", spec := "fnEpochValid", apart := false }
def FnEpochValidSaid : Prop := fnEpochValidRow.holds Try.pinned (OpenSpec.ofChange fnEpochValidSpec)

/-- ITS FALSE NEIGHBOUR: 'it returns false'. Refute it at one input. -/
def fnEpochValidWrong : ChangeSpec := { name := "fnEpochValid", fn := fun _ => fun
  | [d1, d2] => { results := [.lit (.bool false)], args := [d1, d2] }
  | _ => none }
def FnEpochValidWrongFalsely : Prop := fnEpochValidRow.holds Try.pinned (OpenSpec.ofChange fnEpochValidWrong)

/-- 'laws.FnExactEpochNext': WHATEVER THE INPUT: true; the input reads as it did. -/
def fnExactEpochNextSpec : ChangeSpec := { name := "fnExactEpochNext", fn := fun _ => fun
  | [d1, d2, d3, d4] => { results := [.lit (.bool true)], args := [d1, d2, d3, d4] }
  | _ => none }
def fnExactEpochNextRow : OpenClaim := { program := "ythplhhilhfpcaaa", sum := "ea398fc111a7d20944593e710cf033ca9c714332d52bbcec0c52ba3c9d32aa0b", func := "loop.example/dagconsensus/laws.FnExactEpochNext", spec := "fnExactEpochNext", unfollowed := true, recurses := true, apart := false }
def FnExactEpochNextSaid : Prop := fnExactEpochNextRow.holds Try.pinned (OpenSpec.ofChange fnExactEpochNextSpec)

/-- ITS FALSE NEIGHBOUR: 'it returns false'. Refute it at one input. -/
def fnExactEpochNextWrong : ChangeSpec := { name := "fnExactEpochNext", fn := fun _ => fun
  | [d1, d2, d3, d4] => { results := [.lit (.bool false)], args := [d1, d2, d3, d4] }
  | _ => none }
def FnExactEpochNextWrongFalsely : Prop := fnExactEpochNextRow.holds Try.pinned (OpenSpec.ofChange fnExactEpochNextWrong)

/-- 'laws.FnEpochSame': WHATEVER THE INPUT: true; the input reads as it did. -/
def fnEpochSameSpec : ChangeSpec := { name := "fnEpochSame", fn := fun _ => fun
  | [d] => { results := [.lit (.bool true)], args := [d] }
  | _ => none }
def fnEpochSameRow : OpenClaim := { program := "ythplhhilhfpcaaa", sum := "ea398fc111a7d20944593e710cf033ca9c714332d52bbcec0c52ba3c9d32aa0b", func := "loop.example/dagconsensus/laws.FnEpochSame", spec := "fnEpochSame", unfollowed := true, recurses := true, apart := false }
def FnEpochSameSaid : Prop := fnEpochSameRow.holds Try.pinned (OpenSpec.ofChange fnEpochSameSpec)

/-- ITS FALSE NEIGHBOUR: 'it returns false'. Refute it at one input. -/
def fnEpochSameWrong : ChangeSpec := { name := "fnEpochSame", fn := fun _ => fun
  | [d] => { results := [.lit (.bool false)], args := [d] }
  | _ => none }
def FnEpochSameWrongFalsely : Prop := fnEpochSameRow.holds Try.pinned (OpenSpec.ofChange fnEpochSameWrong)

/-- 'laws.FnEpochNext': WHATEVER THE INPUT: true; the input reads as it did. -/
def fnEpochNextSpec : ChangeSpec := { name := "fnEpochNext", fn := fun _ => fun
  | [d] => { results := [.lit (.bool true)], args := [d] }
  | _ => none }
def fnEpochNextRow : OpenClaim := { program := "ythplhhilhfpcaaa", sum := "ea398fc111a7d20944593e710cf033ca9c714332d52bbcec0c52ba3c9d32aa0b", func := "loop.example/dagconsensus/laws.FnEpochNext", spec := "fnEpochNext", unfollowed := true, recurses := true, apart := false }
def FnEpochNextSaid : Prop := fnEpochNextRow.holds Try.pinned (OpenSpec.ofChange fnEpochNextSpec)

/-- ITS FALSE NEIGHBOUR: 'it returns false'. Refute it at one input. -/
def fnEpochNextWrong : ChangeSpec := { name := "fnEpochNext", fn := fun _ => fun
  | [d] => { results := [.lit (.bool false)], args := [d] }
  | _ => none }
def FnEpochNextWrongFalsely : Prop := fnEpochNextRow.holds Try.pinned (OpenSpec.ofChange fnEpochNextWrong)

/-- 'laws.FnEpochGuilty': WHATEVER THE INPUT: true; the input reads as it did. -/
def fnEpochGuiltySpec : ChangeSpec := { name := "fnEpochGuilty", fn := fun _ => fun
  | [d] => { results := [.lit (.bool true)], args := [d] }
  | _ => none }
def fnEpochGuiltyRow : OpenClaim := { program := "ythplhhilhfpcaaa", sum := "ea398fc111a7d20944593e710cf033ca9c714332d52bbcec0c52ba3c9d32aa0b", func := "loop.example/dagconsensus/laws.FnEpochGuilty", spec := "fnEpochGuilty", unfollowed := true, recurses := true, apart := false }
def FnEpochGuiltySaid : Prop := fnEpochGuiltyRow.holds Try.pinned (OpenSpec.ofChange fnEpochGuiltySpec)

/-- ITS FALSE NEIGHBOUR: 'it returns false'. Refute it at one input. -/
def fnEpochGuiltyWrong : ChangeSpec := { name := "fnEpochGuilty", fn := fun _ => fun
  | [d] => { results := [.lit (.bool false)], args := [d] }
  | _ => none }
def FnEpochGuiltyWrongFalsely : Prop := fnEpochGuiltyRow.holds Try.pinned (OpenSpec.ofChange fnEpochGuiltyWrong)

/- THE SECOND FORM. 'bulk': how many values and letters a reading holds, each counted each time it is reached (what is shared counts as often as it is met; a slice's spare places count too). A statement '..UptoSaid' is the law's where the arguments, and the package variables that the reading takes, are together of bulk at most 1048576: NARROWER than '..Said'. Prove '..Said' where nothing that the law and all that it calls make is longer than what came in: it says more and counts as full. Else prove '..UptoSaid'. A law counts once. -/
mutual
def uptoBulk {H : Type} : DataW H → Nat
  | .lit (.string bytes) => bytes.length + 1
  | .lit _ => 1
  | .nil => 1
  | .ptr d => uptoBulk d + 1
  | .slice elems spare => uptoBulkAll elems + uptoBulkAll spare + 1
  | .agg parts => uptoBulkAll parts + 1
  | .iface _ d => uptoBulk d + 1
  | .map entries => uptoBulkEntries entries + 1
  | .held _ => 1
def uptoBulkAll {H : Type} : List (DataW H) → Nat
  | [] => 0
  | d :: r => uptoBulk d + uptoBulkAll r
def uptoBulkEntries {H : Type} : List (Lit × DataW H) → Nat
  | [] => 0
  | x :: r => uptoBulkEntry x + uptoBulkEntries r
def uptoBulkEntry {H : Type} : Lit × DataW H → Nat
  | (.string bytes, d) => bytes.length + uptoBulk d + 1
  | (_, d) => uptoBulk d + 1
 end
def uptoSmall : (H : Type) → List (DataW H) → Bool := fun _ ds => decide (uptoBulkAll ds ≤ 1048576)
def OpenSpec.upto (s : _root_.Go.ChangeSpec) : _root_.Go.OpenSpec := { _root_.Go.OpenSpec.ofChange s with cond := some uptoSmall }

/-- 'laws.FnExactEpochValid', WHERE WHAT IT READS IS OF BULK AT MOST 1048576: true; the input reads as it did. -/
def fnExactEpochValidUptoRow : OpenClaim := { program := "ythplhhilhfpcaaa", sum := "ea398fc111a7d20944593e710cf033ca9c714332d52bbcec0c52ba3c9d32aa0b", func := "loop.example/dagconsensus/laws.FnExactEpochValid", spec := "fnExactEpochValid", apart := false, narrowed := true }
def FnExactEpochValidUptoSaid : Prop := fnExactEpochValidUptoRow.holds Try.pinned (OpenSpec.upto fnExactEpochValidSpec)

/-- 'laws.FnLedgerApply', WHERE WHAT IT READS IS OF BULK AT MOST 1048576: true; the input reads as it did. -/
def fnLedgerApplyUptoRow : OpenClaim := { program := "ythplhhilhfpcaaa", sum := "ea398fc111a7d20944593e710cf033ca9c714332d52bbcec0c52ba3c9d32aa0b", func := "loop.example/dagconsensus/laws.FnLedgerApply", spec := "fnLedgerApply", apart := false, narrowed := true }
def FnLedgerApplyUptoSaid : Prop := fnLedgerApplyUptoRow.holds Try.pinned (OpenSpec.upto fnLedgerApplySpec)

/-- 'laws.FnLedgerBack', WHERE WHAT IT READS IS OF BULK AT MOST 1048576: true; the input reads as it did. -/
def fnLedgerBackUptoRow : OpenClaim := { program := "ythplhhilhfpcaaa", sum := "ea398fc111a7d20944593e710cf033ca9c714332d52bbcec0c52ba3c9d32aa0b", func := "loop.example/dagconsensus/laws.FnLedgerBack", spec := "fnLedgerBack", apart := false, narrowed := true }
def FnLedgerBackUptoSaid : Prop := fnLedgerBackUptoRow.holds Try.pinned (OpenSpec.upto fnLedgerBackSpec)

/-- 'laws.FnLedgerFail', WHERE WHAT IT READS IS OF BULK AT MOST 1048576: true; the input reads as it did. -/
def fnLedgerFailUptoRow : OpenClaim := { program := "ythplhhilhfpcaaa", sum := "ea398fc111a7d20944593e710cf033ca9c714332d52bbcec0c52ba3c9d32aa0b", func := "loop.example/dagconsensus/laws.FnLedgerFail", spec := "fnLedgerFail", apart := false, narrowed := true }
def FnLedgerFailUptoSaid : Prop := fnLedgerFailUptoRow.holds Try.pinned (OpenSpec.upto fnLedgerFailSpec)

/-- 'laws.FnEpochValid', WHERE WHAT IT READS IS OF BULK AT MOST 1048576: true; the input reads as it did. -/
def fnEpochValidUptoRow : OpenClaim := { program := "ythplhhilhfpcaaa", sum := "ea398fc111a7d20944593e710cf033ca9c714332d52bbcec0c52ba3c9d32aa0b", func := "loop.example/dagconsensus/laws.FnEpochValid", spec := "fnEpochValid", apart := false, narrowed := true }
def FnEpochValidUptoSaid : Prop := fnEpochValidUptoRow.holds Try.pinned (OpenSpec.upto fnEpochValidSpec)

/-- 'laws.FnExactEpochNext', WHERE WHAT IT READS IS OF BULK AT MOST 1048576: true; the input reads as it did. -/
def fnExactEpochNextUptoRow : OpenClaim := { program := "ythplhhilhfpcaaa", sum := "ea398fc111a7d20944593e710cf033ca9c714332d52bbcec0c52ba3c9d32aa0b", func := "loop.example/dagconsensus/laws.FnExactEpochNext", spec := "fnExactEpochNext", unfollowed := true, recurses := true, apart := false, narrowed := true }
def FnExactEpochNextUptoSaid : Prop := fnExactEpochNextUptoRow.holds Try.pinned (OpenSpec.upto fnExactEpochNextSpec)

/-- 'laws.FnEpochSame', WHERE WHAT IT READS IS OF BULK AT MOST 1048576: true; the input reads as it did. -/
def fnEpochSameUptoRow : OpenClaim := { program := "ythplhhilhfpcaaa", sum := "ea398fc111a7d20944593e710cf033ca9c714332d52bbcec0c52ba3c9d32aa0b", func := "loop.example/dagconsensus/laws.FnEpochSame", spec := "fnEpochSame", unfollowed := true, recurses := true, apart := false, narrowed := true }
def FnEpochSameUptoSaid : Prop := fnEpochSameUptoRow.holds Try.pinned (OpenSpec.upto fnEpochSameSpec)

/-- 'laws.FnEpochNext', WHERE WHAT IT READS IS OF BULK AT MOST 1048576: true; the input reads as it did. -/
def fnEpochNextUptoRow : OpenClaim := { program := "ythplhhilhfpcaaa", sum := "ea398fc111a7d20944593e710cf033ca9c714332d52bbcec0c52ba3c9d32aa0b", func := "loop.example/dagconsensus/laws.FnEpochNext", spec := "fnEpochNext", unfollowed := true, recurses := true, apart := false, narrowed := true }
def FnEpochNextUptoSaid : Prop := fnEpochNextUptoRow.holds Try.pinned (OpenSpec.upto fnEpochNextSpec)

/-- 'laws.FnEpochGuilty', WHERE WHAT IT READS IS OF BULK AT MOST 1048576: true; the input reads as it did. -/
def fnEpochGuiltyUptoRow : OpenClaim := { program := "ythplhhilhfpcaaa", sum := "ea398fc111a7d20944593e710cf033ca9c714332d52bbcec0c52ba3c9d32aa0b", func := "loop.example/dagconsensus/laws.FnEpochGuilty", spec := "fnEpochGuilty", unfollowed := true, recurses := true, apart := false, narrowed := true }
def FnEpochGuiltyUptoSaid : Prop := fnEpochGuiltyUptoRow.holds Try.pinned (OpenSpec.upto fnEpochGuiltySpec)

end Rows
end Go.Proofs.Ythplhhilhfpcaaa
