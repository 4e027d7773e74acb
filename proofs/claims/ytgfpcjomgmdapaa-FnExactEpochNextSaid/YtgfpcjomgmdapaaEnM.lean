/-
The program's EpochNext returns what the reference's returns, for all arguments.
No conditions.
-/
import Derived.Test.YtgfpcjomgmdapaaRows
import Derived.Test.YtgfpcjomgmdapaaEnL
import Derived.Test.YtgfpcjomgmdapaaOpJ
import Derived.Test.YtgfpcjomgmdapaaOpE
import Derived.Test.YtgfpcjomgmdapaaVcLaw
import Derived.JoinedOf
import Derived.JoinedAt
import Derived.Lib.SmallJoins
namespace Go.Proofs.Ytgfpcjomgmdapaa
open Go Go.Vc Go.ChangeShapes Go.WideShapes Go.ChangeAt Go.RowKit Go.Joins
theorem Try.own : ownKnob Try.prog.godebug = none := by kernel_rfl
theorem Try.laid : laidOutB Try.prog = true := by kernel_rfl
theorem Try.cells_int : Try.prog.cellsOf 3 = 1 := by kernel_rfl
theorem Try.cells_Epoch : Try.prog.cellsOf 24 = 4 := by kernel_rfl
set_option maxRecDepth 100000
theorem fnExactEpochNext_lifted (os : Os) (started : os.Started) (H : Type) (enc : TypeId × Value → H) :
    ReturnsInHanded {} Try.checked os 3 .any (Rows.fnExactEpochNextSpec.pre6 enc Try.prog Try.f3 Rows.fnExactEpochNextRow.domain false) (Rows.fnExactEpochNextSpec.post enc Try.prog Try.f3 false true false false) := by
  refine returnsInHanded_of_change (C := Try.checked) Try.own started (by kernel_rfl) Try.func3
    (ChangeSpec.witness6 (enc := enc) (C := Try.checked) false ⟨#[], #[.agg #[.int .i64 0, .slice none 0 0, .slice none 0 0, .int .i64 0], .slice none 0 0, .slice none 0 0, .int .i64 0], []⟩ 8 (by kernel_rfl) (by kernel_rfl) (by kernel_rfl) (by kernel_rfl)) ?_
  intro W base args ds gs before hval hW _ _
  have hW' := hW
  obtain ⟨p, q, hA, hV, hbe, _, _⟩ := hW
  have hlt : ∀ x ∈ p, x.block < W.heap.size := fun x hx => hW'.lt x (by rw [hbe]; exact List.mem_append_left _ hx)
  have hA : DataW.TrodAll enc Try.prog W 0 (fun _ => true) true Try.f3.params.toList args.toList ds p := hA
  rw [Try.params3] at hA hval
  obtain ⟨rfl, rfl⟩ := trodVars_none hV
  obtain ⟨args⟩ := args
  obtain ⟨v0, vs0, d0, ds0, p0, q0, e0, rfl, rfl, h0, hA⟩ := trodAll_cons hA
  obtain ⟨v1, vs1, d1, ds1, p1, q1, rfl, rfl, rfl, h1, hA⟩ := trodAll_cons hA
  obtain ⟨v2, vs2, d2, ds2, p2, q2, rfl, rfl, rfl, h2, hA⟩ := trodAll_cons hA
  obtain ⟨v3, vs3, d3, ds3, p3, q3, rfl, rfl, rfl, h3, hA⟩ := trodAll_cons hA
  obtain ⟨rfl, rfl, rfl⟩ := trodAll_nil hA
  have e0 : args = [v0, v1, v2, v3] := e0
  subst e0
  obtain ⟨_, _, _, _, r0, l0a, l0b⟩ := open_epoch (hval 0 _ v0 rfl rfl) h0 (fun x hx => hlt x (by simp [hx]))
  obtain ⟨a1, b1, c1, rfl⟩ := okWide_slice Try.underlying22 (hval 1 22 v1 rfl rfl)
  obtain ⟨n1, g1⟩ := h1
  obtain ⟨_, r1, l1, _⟩ := open_argInts Try.underlying22 Try.underlying3 Try.cells_int g1 (fun x hx => hlt x (by simp [hx]))
  obtain ⟨a2, b2, c2, rfl⟩ := okWide_slice Try.underlying25 (hval 2 25 v2 rfl rfl)
  obtain ⟨n2, g2⟩ := h2
  obtain ⟨js, r2, l2⟩ := open_joins g2 (fun x hx => hlt x (by simp [hx]))
  obtain ⟨z3, rfl⟩ := okWide_int Try.underlying3 (hval 3 3 v3 rfl rfl)
  have hcall := calls_law k_laws_FnExactEpochNext (W := W) (repA_cons r0 (repA_cons r1 (repA_cons r2 (repA_cons (RepV.val (.int .i64 z3)) repA_nil)))) (b := true) ⟨js, rfl, rfl, l0a, l0b, l1, l2, rfl⟩
  refine hcall.mono ?_
  rintro e W' ⟨rfl, hb⟩
  exact ⟨_, rfl, post_law Try.laid (by rw [Try.params3]; exact of_decide_eq_true (by kernel_rfl)) rfl Try.underlying4 rfl rfl rfl rfl hW' hb⟩
theorem fnExactEpochNext_holds : Rows.FnExactEpochNextSaid :=
  OpenClaim.holds_of_wide 3 Try.f3 rfl rfl rfl rfl rfl rfl rfl ⟨rfl, rfl, rfl, rfl, rfl⟩ rfl rfl rfl rfl rfl (by kernel_rfl) Try.func3 (by kernel_rfl)
    (of_decide_eq_true (by kernel_rfl)) (by unfold Func.isWrapper; first | (rw [if_pos (by decide +kernel)]; kernel_rfl) | (rw [if_neg (by decide +kernel)]; exact ⟨rfl, rfl⟩))
    (fun os started H enc _ => fnExactEpochNext_lifted os started H enc)
end Go.Proofs.Ytgfpcjomgmdapaa
