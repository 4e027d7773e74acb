/-
Copies of epochs.
No conditions.
-/
import Derived.Test.YtdljacpmoaeepaaDoorEvA
namespace Go.Proofs.YtdljacpmoaeepaaDoor
open Go Go.Vc
set_option maxHeartbeats 1000000
set_option maxRecDepth 10000
def c_spec_l41Copy : Con := ⟨2, 0, false, fun xs hs _ K => match xs with
  | [.agg [.val (.int .i64 n), .ints c, .ints k, .val (.int .i64 r)]] => hs = [] ∧ c.length ≤ 2000000 ∧ k.length ≤ 2000000 ∧ K (.agg [I n, .own 0, .own 1, I r]) [.iarr c, .iarr k] []
  | _ => False⟩
theorem k_spec_l41Copy : Keeps' Tryd.prog 19 c_spec_l41Copy := by
  refine keeps_of_vc mix TyT_ok cok_nil Tryd.func19 rfl rfl rfl ?_
  intro aargs hs Fs K h
  simp only [c_spec_l41Copy] at h
  split at h
  case h_2 => exact h.elim
  rename_i n c k r
  obtain ⟨rfl, hc, hk, h⟩ := h
  repeat' (first|((conv=>whnf); (first|refine draw_plan (id := 1) [] [13] (.take 0 (.take 1 (.take 3 (.take 4 (.take 7 (.take 8 (.take 10 (.take 11 (.two 2 (.two 5 (.run 6 (.run 9 (.take 12 (.run 13 .done)))) 6 (.run 5 (.run 9 (.take 12 (.run 13 .done))))) 6 (.run 2 (.run 5 (.run 9 (.take 12 (.run 13 .done)))))))))))))) (by kernel_rfl) (by kernel_rfl) ?_|refine brK_dec (fun _=>?_) (fun _=>?_)|refine brK_ndec (fun _=>?_) (fun _=>?_)|refine brK_not (fun _=>?_) (fun _=>?_)|refine brK_in (fun _=>?_) (fun _=>?_)|refine And.intro (by first|exact rfl|exact ⟨_,rfl,rfl⟩|exact ⟨rfl,rfl,rfl⟩|exact of_decide_eq_true rfl|exact trivial|assumption|omega|(show (_ ≤ _ ∧ _ ≤ _); omega)|(simp; omega)|exact ⟨by first|omega|(simp; omega),_,rfl,rfl⟩) ?_|refine Quo.l (And.intro (by first|exact rfl|assumption|omega|(simp; omega)) ?_)|refine Quo.r (And.intro (by omega) ?_)|refine Both.mk ?_ ?_|refine Exists.intro _ (And.intro rfl ?_)|refine fun _=>?_))|exact rfl)
  all_goals exact h
theorem k_impl_cloneEpoch : Keeps' Tryd.prog 24 c_spec_l41Copy := by
  refine keeps_of_vc mix TyT_ok cok_nil Tryd.func24 rfl rfl rfl ?_
  intro aargs hs Fs K h
  simp only [c_spec_l41Copy] at h
  split at h
  case h_2 => exact h.elim
  rename_i n c k r
  obtain ⟨rfl, hc, hk, h⟩ := h
  repeat' (first|((conv=>whnf); (first|refine brK_dec (fun _=>?_) (fun _=>?_)|refine brK_ndec (fun _=>?_) (fun _=>?_)|refine brK_not (fun _=>?_) (fun _=>?_)|refine brK_in (fun _=>?_) (fun _=>?_)|refine And.intro (by first|exact rfl|exact ⟨_,rfl,rfl⟩|exact ⟨rfl,rfl,rfl⟩|exact of_decide_eq_true rfl|exact trivial|assumption|omega|(show (_ ≤ _ ∧ _ ≤ _); omega)|(simp; omega)|exact ⟨by first|omega|(simp; omega),_,rfl,rfl⟩) ?_|refine Quo.l (And.intro (by first|exact rfl|assumption|omega|(simp; omega)) ?_)|refine Quo.r (And.intro (by omega) ?_)|refine Both.mk ?_ ?_|refine Exists.intro _ (And.intro rfl ?_)|refine fun _=>?_))|exact rfl)
  all_goals exact h
end Go.Proofs.YtdljacpmoaeepaaDoor
