/-
A voter copied by the program.
No conditions.
-/
import Derived.Test.YtalbgcpfekmfoaaVpB
namespace Go.Proofs.Ytalbgcpfekmfoaa
open Go Go.Vc
set_option maxHeartbeats 4000000
set_option maxRecDepth 10000
def c_impl_cloneVoter : Con := ⟨1, 0, false, fun xs hs _ K => match xs with
  | [.agg [.val (.int .i64 f), .sl 3 rows]] => hs = [] ∧ ∃ l : List VtD, rows = l.map VtD.row ∧ l.length ≤ 1000 ∧ K (.agg [I f, .own 0]) [.arr 3 (l.map VtD.row)] []
  | _ => False⟩
theorem k_impl_cloneVoter : Keeps' Try.prog 28 c_impl_cloneVoter := by
  refine keeps_of_vc mix TyT_ok cok_nil Try.func28 rfl rfl rfl ?_
  intro aargs hs Fs K h
  simp only [c_impl_cloneVoter] at h
  split at h
  case h_2 => exact h.elim
  rename_i f rows
  obtain ⟨rfl, l, rfl, hl, h⟩ := h
  have hlen : (l.map VtD.row).length = l.length := by simp
  repeat' (first
    | ((conv => whnf); (first
      | refine draw_plan (id := 1) [] [7] (.take 0 (.take 1 (.take 3 (.take 4 (.run 2 (.run 5 (.take 6 (.run 7 .done)))))))) (by kernel_rfl) (by kernel_rfl) ?_
      | refine brK_dec (fun _ => ?_) (fun _ => ?_)
      | refine brK_ndec (fun _ => ?_) (fun _ => ?_)
      | refine brK_not (fun _ => ?_) (fun _ => ?_)
      | refine brK_in (fun _ => ?_) (fun _ => ?_)
      | refine And.intro (by first | exact rfl | exact (by first | exact Nat.le_trans (Nat.mul_le_mul_right _ (show _ ≤ 1000 from by simp [chunks]; omega)) (by decide) | (simp [chunks]; omega)) | exact ⟨_, rfl, rfl⟩ | exact ⟨rfl, rfl, rfl⟩ | exact of_decide_eq_true rfl | exact trivial | assumption | omega | (show (_ ≤ _ ∧ _ ≤ _); omega) | (simp; omega) | exact ⟨by first | omega | (simp; omega), _, rfl, rfl⟩) ?_
      | refine Quo.l (And.intro (by first | exact rfl | exact (by first | exact Nat.le_trans (Nat.mul_le_mul_right _ (show _ ≤ 1000 from by simp [chunks]; omega)) (by decide) | (simp [chunks]; omega)) | assumption | omega | (simp; omega)) ?_)
      | refine Quo.r (And.intro (by omega) ?_)
      | refine Both.mk ?_ ?_
      | refine Exists.intro _ (And.intro rfl ?_)
      | refine fun _ => ?_))
    | exact rfl)
  all_goals
    have e : ∀ R, R = l.map VtD.row → roK c_impl_cloneVoter.alias (.agg [I f, .own 0]) [.arr 3 R] [] (K (.agg [I f, .own 0]) [.arr 3 R] []) := fun R hR => by
      rw [hR]
      exact ⟨⟨rfl, by simp [roFreeB, VtD.row, roFreeC], rfl⟩, h⟩
    refine e _ ?_
    simp [chunks]
end Go.Proofs.Ytalbgcpfekmfoaa
