/-
The program's EpochValid returns what the reference's returns, for all arguments.
No conditions.
-/
import Derived.Test.YthplhhilhfpcaaaRows
import Derived.Test.YthplhhilhfpcaaaEvC
import Derived.Test.YthplhhilhfpcaaaVcLaw
import Derived.JoinedOf
import Derived.JoinedAt
import Derived.Lib.SmallJoins
namespace Go.Proofs.Ythplhhilhfpcaaa
open Go Go.Vc Go.ChangeShapes Go.WideShapes Go.ChangeAt Go.RowKit Go.Joins
theorem Try.own : ownKnob Try.prog.godebug = none := by kernel_rfl
theorem Try.laid : laidOutB Try.prog = true := by kernel_rfl
theorem Try.cells_int : Try.prog.cellsOf 3 = 1 := by kernel_rfl
theorem Try.cells_Epoch : Try.prog.cellsOf 24 = 4 := by kernel_rfl
set_option maxRecDepth 100000
theorem fnExactEpochValid_lifted (os : Os) (started : os.Started) (H : Type) (enc : TypeId × Value → H) :
    ReturnsInHanded {} Try.checked os 3 .any (Rows.fnExactEpochValidSpec.pre6 enc Try.prog Try.f3 Rows.fnExactEpochValidRow.domain false) (Rows.fnExactEpochValidSpec.post enc Try.prog Try.f3 false true false false) := by
  refine returnsInHanded_of_change (C := Try.checked) Try.own started (by kernel_rfl) Try.func3
    (ChangeSpec.witness6 (enc := enc) (C := Try.checked) false ⟨#[], #[.agg #[.int .i64 0, .slice none 0 0, .slice none 0 0, .int .i64 0]], []⟩ 8 (by kernel_rfl) (by kernel_rfl) (by kernel_rfl) (by kernel_rfl)) ?_
  intro W base args ds gs before hval hW _ _
  have hW' := hW
  obtain ⟨p, q, hA, hV, hbe, _, _⟩ := hW
  have hlt : ∀ x ∈ p, x.block < W.heap.size := fun x hx => hW'.lt x (by rw [hbe]; exact List.mem_append_left _ hx)
  have hA : DataW.TrodAll enc Try.prog W 0 (fun _ => true) true Try.f3.params.toList args.toList ds p := hA
  rw [Try.params3] at hA hval
  obtain ⟨v0, d0, rfl, rfl, h0⟩ := trodAll_one hA
  obtain ⟨rfl, rfl⟩ := trodVars_none hV
  obtain ⟨c0, c1, c2, c3, y0, y1, y2, y3, m, rfl, rfl, rfl, g0, g1, g2, g3⟩ := open_agg4 Try.underlying24 (by kernel_rfl) Try.cells_Epoch (hval 0 24 v0 rfl rfl) h0
  obtain ⟨n, e0, _, _⟩ := DataW.trod_int Try.underlying3 g0
  obtain ⟨r, e3, _, _⟩ := DataW.trod_int Try.underlying3 g3
  obtain ⟨c, rc, lc, _⟩ := open_argInts Try.underlying22 Try.underlying3 Try.cells_int g1 (fun x hx => hlt x (by simp [hx]))
  obtain ⟨k, rk, lk, _⟩ := open_argInts Try.underlying22 Try.underlying3 Try.cells_int g2 (fun x hx => hlt x (by simp [hx]))
  simp only [List.cons.injEq, and_true] at e0 e3
  subst e0 e3
  have hcall := calls_law k_laws_FnExactEpochValid (W := W) (args := [.agg #[.int .i64 n, c1, c2, .int .i64 r]]) (aargs := [.agg [I n, .ints c, .ints k, I r]])
    (repA_cons (rep_cons (.val _) rfl (rep_cons rc (ints_one rc) (rep_cons rk (ints_one rk) (rep_cons (.val _) rfl .nil)))).agg repA_nil) (b := true) ⟨rfl, lc, lk, rfl⟩
  refine hcall.mono ?_
  rintro e W' ⟨rfl, hb⟩
  exact ⟨_, rfl, post_law Try.laid (by rw [Try.params3]; exact of_decide_eq_true (by kernel_rfl)) rfl Try.underlying4 rfl rfl rfl rfl hW' hb⟩
theorem fnExactEpochValid_holds : Rows.FnExactEpochValidSaid :=
  OpenClaim.holds_of_wide 3 Try.f3 rfl rfl rfl rfl rfl rfl rfl ⟨rfl, rfl, rfl, rfl, rfl⟩ rfl rfl rfl rfl rfl (by kernel_rfl) Try.func3 (by kernel_rfl)
    (of_decide_eq_true (by kernel_rfl)) (by unfold Func.isWrapper; first | (rw [if_pos (by decide +kernel)]; kernel_rfl) | (rw [if_neg (by decide +kernel)]; exact ⟨rfl, rfl⟩))
    (fun os started H enc _ => fnExactEpochValid_lifted os started H enc)
end Go.Proofs.Ythplhhilhfpcaaa
