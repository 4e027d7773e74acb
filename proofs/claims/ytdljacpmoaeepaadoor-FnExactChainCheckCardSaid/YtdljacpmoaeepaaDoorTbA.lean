/-
What the rows' condition on the listed tables gives a proof, and a start that meets it.
No conditions.
-/
import Derived.Test.YtdljacpmoaeepaaDoorRows
import Derived.Test.YtdljacpmoaeepaaDoorTie
import Derived.Test.YtdljacpmoaeepaaDoorCards
import Derived.Test.YtdljacpmoaeepaaDoorBldE
import Derived.Test.YtdljacpmoaeepaaDoorVcMG
import Derived.JoinedOf
import Derived.JoinedAt
import Derived.Lib.SmallJoins
import Derived.Lib.LaidTab
import Derived.LaidMore
import Derived.LaidSub
import Derived.Lay
import Derived.SevenTiedAt
namespace Go.Proofs.YtdljacpmoaeepaaDoor
open Go Go.Vc Go.ChangeShapes Go.WideShapes Go.ChangeAt Go.RowKit Go.Joins
set_option maxRecDepth 100000
theorem Tryd.own : ownKnob Tryd.prog.godebug = none := by kernel_rfl
theorem Tryd.laid : laidOutB Tryd.prog = true := by kernel_rfl
def tabsL : List (String × DataW Unit) := [("math/bits.deBruijn32tab", Rows.laid_math_bits_deBruijn32tab), ("math/bits.deBruijn64tab", Rows.laid_math_bits_deBruijn64tab), ("internal/strconv.uint64pow10", Rows.laid_internal_strconv_uint64pow10)]
theorem tab_of_laid {W : World} (h : laidMetH Tryd.prog tabsL W) : tabOk W := by
  rw [MakeChecks.laidMetH_plain _ _ _ (by kernel_rfl)] at h
  have h1 := laidMet.filter (fun x => x.1 == "internal/strconv.uint64pow10") h
  have e : tabsL.filter (fun x => x.1 == "internal/strconv.uint64pow10") = [("internal/strconv.uint64pow10", Lib.tabData .u64 Lib.pow10Tab)] := by kernel_rfl
  rw [e] at h1
  exact Lib.tabIs_of_head tab_glob (t := 99) (e := 92) (n := 20) (by kernel_rfl) Tryd.underlying99 Tryd.underlying92 (by kernel_rfl) (by kernel_rfl) h1
theorem tab_block {W : World} (h : tabOk W) : ∃ T fr, W.heap[0]? = some (.cells (Lib.pow10Tab.map fun z => Value.int .u64 z).toArray T fr) := by
  unfold tabOk Lib.TabIs World.var? at h
  rw [tab_glob] at h
  simp only [Option.bind_some] at h
  generalize W.heap[0]? = o at h ⊢
  match o, h with
  | some (.cells vs T fr), h =>
    simp only [Option.some.injEq] at h
    exact ⟨T, fr, by rw [h]⟩
theorem tab_fam : tabF 0 (Lib.pow10Tab.map fun z => Value.int .u64 z).toArray = [⟨some 0, [tabRow]⟩] := by
  simp [tabF, tabRow]
theorem tab_has : hasTab (tabF 0 (Lib.pow10Tab.map fun z => Value.int .u64 z).toArray) := by
  rw [tab_fam]
  rfl
theorem tab_one : ∀ v ∈ (Lib.pow10Tab.map fun z => Value.int .u64 z).toArray.toList, v.oneCell' = true := by
  intro v hv
  simp only [List.mem_map] at hv
  obtain ⟨z, _, rfl⟩ := hv
  rfl
/-- A law's call where the tables are as the row lists them. -/
theorem calls_laid {f : FuncId} {con : Con} (hk : Keeps' Tryd.prog f con) {W : World} (hL : laidMetH Tryd.prog tabsL W) {args : List Value} {aargs : List AV} {b : Bool} (hargs : RepA (outC W) aargs args) (hp : ∀ a ∈ aargs, pureA a = true)
    (hc : ∀ Fs, hasTab Fs → con.C aargs [] Fs fun r _ _ => r = B b) :
    Calls Tryd.prog f args.toArray W fun e W' => e = .returned (.bool b) ∧ Below W.heap.size W W' := by
  obtain ⟨T, fr, hg⟩ := tab_block (tab_of_laid hL)
  exact calls_law_tab hk hg tab_one hargs hp (hc _ tab_has)
theorem laid_start (os : Os) (args : Array Value) : laidMetH Tryd.prog tabsL ((World.laidAll Tryd.prog os tabsL).forCall (fun _ _ => 0) ⟨#[], args, []⟩).memory := by
  rw [MakeChecks.laidMetH_plain _ _ _ (by kernel_rfl)]
  exact laidMet_laidAll _ (by kernel_rfl) (by kernel_rfl)
end Go.Proofs.YtdljacpmoaeepaaDoor
