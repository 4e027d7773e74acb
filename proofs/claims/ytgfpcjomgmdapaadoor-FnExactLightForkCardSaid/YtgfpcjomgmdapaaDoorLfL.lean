/-
The law on forks of light chains: its contract.
No conditions.
-/
import Derived.Test.YtgfpcjomgmdapaaDoorLkA
import Derived.Test.YtgfpcjomgmdapaaDoorLxC
namespace Go.Proofs.YtgfpcjomgmdapaaDoor
open Go Go.Vc
set_option maxHeartbeats 4000000
set_option maxRecDepth 10000
theorem fork_len (n : Int) (c k : List Int) (r na : Int) (ca ka : List Int) (ra da : Int) (sa : List Int) (ma nb : Int) (cb kb : List Int) (rb db : Int) (sb : List Int) (mb : Int) : (forkL n c k r na ca ka ra da sa ma nb cb kb rb db sb mb).length ≤ sa.length := by
  unfold forkL
  split
  · exact List.length_filter_le _ _
  · exact Nat.zero_le _
def c_laws_FnExactLightFork : Con := ⟨0, 0, false, fun xs hs Fs K => match xs with
  | [.agg [.val (.int .i64 _), .ints c, .ints k, .val (.int .i64 _)], .agg [.val (.int .i64 _), .ints ca, .ints ka, .val (.int .i64 _), .val (.int .i64 _), .ints sa, .val (.int .i64 _)],
     .agg [.val (.int .i64 _), .ints cb, .ints kb, .val (.int .i64 _), .val (.int .i64 _), .ints sb, .val (.int .i64 _)]] =>
    hs = [] ∧ hasTab Fs ∧ c.length ≤ 9223372036854775807 ∧ k.length ≤ 9223372036854775807 ∧ ca.length ≤ 9223372036854775807 ∧ ka.length ≤ 9223372036854775807 ∧ sa.length ≤ 9223372036854775807 ∧
      cb.length ≤ 9223372036854775807 ∧ kb.length ≤ 9223372036854775807 ∧ sb.length ≤ 9223372036854775807 ∧ K (B true) [] []
  | _ => False⟩
theorem k_laws_FnExactLightFork : Keeps' Tryd.prog 3 c_laws_FnExactLightFork := by
  refine keeps_of_vc mix TyT_ok (cok_cons k_laws_szEpoch Tryd.func7 rfl rfl (cok_cons k_laws_szLink Tryd.func8 rfl rfl (cok_cons k_laws_toEpoch Tryd.func10 rfl rfl (cok_cons k_laws_toLink Tryd.func11 rfl rfl (cok_cons k_spec_LightFork Tryd.func9 rfl rfl (cok_cons k_impl_LightFork Tryd.func12 rfl rfl (cok_cons k_laws_eqIntS Tryd.func13 rfl rfl (cok_cons k_laws_eqEpoch Tryd.func14 rfl rfl (cok_cons k_laws_eqLink Tryd.func15 rfl rfl (cok_cons k_laws_markEpoch Tryd.func16 rfl rfl (cok_cons k_laws_markLink Tryd.func17 rfl rfl (cok_cons k_laws_markIntS Tryd.func18 rfl rfl (cok_cons k_laws_heldIntS Tryd.func19 rfl rfl cok_nil))))))))))))) Tryd.func3 rfl rfl rfl ?_
  intro aargs hs Fs K h
  simp only [c_laws_FnExactLightFork] at h
  split at h
  case h_2 => exact h.elim
  rename_i n c k r na ca ka ra da sa ma nb cb kb rb db sb mb
  obtain ⟨rfl, hT, l1, l2, l3, l4, l5, l6, l7, l8, h⟩ := h
  repeat' (first
    | ((conv => whnf); (first
      | refine draw_plan (id := 11) [] [] (.take 0 (.take 2 (.take 4 (.run 1 (.run 3 (.run 5 (.run 6 (.take 7 .done)))))))) (by kernel_rfl) (by kernel_rfl) ?_
      | refine draw_plan (id := 18) [] [] (.take 0 (.take 1 (.run 2 (.run 3 (.take 4 .done))))) (by kernel_rfl) (by kernel_rfl) ?_
      | refine draw_plan (id := 20) [] [] (.take 0 (.take 1 (.run 2 (.run 3 (.take 4 .done))))) (by kernel_rfl) (by kernel_rfl) ?_
      | refine draw_plan (id := 22) [] [] (.take 0 (.take 1 (.run 2 (.run 3 (.take 4 .done))))) (by kernel_rfl) (by kernel_rfl) ?_
      | refine draw_plan (id := 38) [] [] (.take 0 (.take 2 (.take 4 (.run 1 (.run 3 (.run 5 (.run 6 (.take 7 .done)))))))) (by kernel_rfl) (by kernel_rfl) ?_
      | refine brK_dec (fun _ => ?_) (fun _ => ?_)
      | refine brK_ndec (fun _ => ?_) (fun _ => ?_)
      | refine brK_not (fun _ => ?_) (fun _ => ?_)
      | refine brK_in (fun _ => ?_) (fun _ => ?_)
      | refine And.intro (by first | exact rfl | exact (tab_app hT) | exact ⟨_, rfl, rfl⟩ | exact ⟨rfl, rfl, rfl⟩ | exact of_decide_eq_true rfl | exact trivial | assumption | omega | (show (_ ≤ _ ∧ _ ≤ _); omega) | (simp; omega) | exact ⟨by first | omega | (simp; omega), _, rfl, rfl⟩) ?_
      | refine Both.mk ?_ ?_
      | refine Exists.intro _ (And.intro rfl ?_)
      | refine fun _ => ?_))
    | exact rfl)
  · exact h
  rename_i h1
  obtain ⟨g1, g2⟩ := szE_le (by omega) h1
  have g3 := szE_top h1
  repeat' (first
    | ((conv => whnf); (first
      | refine draw_plan (id := 11) [] [] (.take 0 (.take 2 (.take 4 (.run 1 (.run 3 (.run 5 (.run 6 (.take 7 .done)))))))) (by kernel_rfl) (by kernel_rfl) ?_
      | refine draw_plan (id := 18) [] [] (.take 0 (.take 1 (.run 2 (.run 3 (.take 4 .done))))) (by kernel_rfl) (by kernel_rfl) ?_
      | refine draw_plan (id := 20) [] [] (.take 0 (.take 1 (.run 2 (.run 3 (.take 4 .done))))) (by kernel_rfl) (by kernel_rfl) ?_
      | refine draw_plan (id := 22) [] [] (.take 0 (.take 1 (.run 2 (.run 3 (.take 4 .done))))) (by kernel_rfl) (by kernel_rfl) ?_
      | refine draw_plan (id := 38) [] [] (.take 0 (.take 2 (.take 4 (.run 1 (.run 3 (.run 5 (.run 6 (.take 7 .done)))))))) (by kernel_rfl) (by kernel_rfl) ?_
      | refine brK_dec (fun _ => ?_) (fun _ => ?_)
      | refine brK_ndec (fun _ => ?_) (fun _ => ?_)
      | refine brK_not (fun _ => ?_) (fun _ => ?_)
      | refine brK_in (fun _ => ?_) (fun _ => ?_)
      | refine And.intro (by first | exact rfl | exact (tab_app hT) | exact ⟨_, rfl, rfl⟩ | exact ⟨rfl, rfl, rfl⟩ | exact of_decide_eq_true rfl | exact trivial | assumption | omega | (show (_ ≤ _ ∧ _ ≤ _); omega) | (simp; omega) | exact ⟨by first | omega | (simp; omega), _, rfl, rfl⟩) ?_
      | refine Both.mk ?_ ?_
      | refine Exists.intro _ (And.intro rfl ?_)
      | refine fun _ => ?_))
    | exact rfl)
  · exact h
  rename_i h2
  obtain ⟨g4, g5, g6, g7⟩ := szL_le (by omega) h2
  repeat' (first
    | ((conv => whnf); (first
      | refine draw_plan (id := 11) [] [] (.take 0 (.take 2 (.take 4 (.run 1 (.run 3 (.run 5 (.run 6 (.take 7 .done)))))))) (by kernel_rfl) (by kernel_rfl) ?_
      | refine draw_plan (id := 18) [] [] (.take 0 (.take 1 (.run 2 (.run 3 (.take 4 .done))))) (by kernel_rfl) (by kernel_rfl) ?_
      | refine draw_plan (id := 20) [] [] (.take 0 (.take 1 (.run 2 (.run 3 (.take 4 .done))))) (by kernel_rfl) (by kernel_rfl) ?_
      | refine draw_plan (id := 22) [] [] (.take 0 (.take 1 (.run 2 (.run 3 (.take 4 .done))))) (by kernel_rfl) (by kernel_rfl) ?_
      | refine draw_plan (id := 38) [] [] (.take 0 (.take 2 (.take 4 (.run 1 (.run 3 (.run 5 (.run 6 (.take 7 .done)))))))) (by kernel_rfl) (by kernel_rfl) ?_
      | refine brK_dec (fun _ => ?_) (fun _ => ?_)
      | refine brK_ndec (fun _ => ?_) (fun _ => ?_)
      | refine brK_not (fun _ => ?_) (fun _ => ?_)
      | refine brK_in (fun _ => ?_) (fun _ => ?_)
      | refine And.intro (by first | exact rfl | exact (tab_app hT) | exact ⟨_, rfl, rfl⟩ | exact ⟨rfl, rfl, rfl⟩ | exact of_decide_eq_true rfl | exact trivial | assumption | omega | (show (_ ≤ _ ∧ _ ≤ _); omega) | (simp; omega) | exact ⟨by first | omega | (simp; omega), _, rfl, rfl⟩) ?_
      | refine Both.mk ?_ ?_
      | refine Exists.intro _ (And.intro rfl ?_)
      | refine fun _ => ?_))
    | exact rfl)
  · exact h
  rename_i h3
  obtain ⟨g8, g9, g10, g11⟩ := szL_le (by omega) h3
  have hf := fork_len n c k r na ca ka ra da sa ma nb cb kb rb db sb mb
  repeat' (first
    | ((conv => whnf); (first
      | refine draw_plan (id := 11) [] [] (.take 0 (.take 2 (.take 4 (.run 1 (.run 3 (.run 5 (.run 6 (.take 7 .done)))))))) (by kernel_rfl) (by kernel_rfl) ?_
      | refine draw_plan (id := 18) [] [] (.take 0 (.take 1 (.run 2 (.run 3 (.take 4 .done))))) (by kernel_rfl) (by kernel_rfl) ?_
      | refine draw_plan (id := 20) [] [] (.take 0 (.take 1 (.run 2 (.run 3 (.take 4 .done))))) (by kernel_rfl) (by kernel_rfl) ?_
      | refine draw_plan (id := 22) [] [] (.take 0 (.take 1 (.run 2 (.run 3 (.take 4 .done))))) (by kernel_rfl) (by kernel_rfl) ?_
      | refine draw_plan (id := 38) [] [] (.take 0 (.take 2 (.take 4 (.run 1 (.run 3 (.run 5 (.run 6 (.take 7 .done)))))))) (by kernel_rfl) (by kernel_rfl) ?_
      | refine brK_dec (fun _ => ?_) (fun _ => ?_)
      | refine brK_ndec (fun _ => ?_) (fun _ => ?_)
      | refine brK_not (fun _ => ?_) (fun _ => ?_)
      | refine brK_in (fun _ => ?_) (fun _ => ?_)
      | refine And.intro (by first | exact rfl | exact (by first | exact tab_app hT | exact mkL_len _ _ | (rw [mkL_len]; done) | (rw [mkL_len]; omega)) | exact ⟨_, rfl, rfl⟩ | exact ⟨rfl, rfl, rfl⟩ | exact of_decide_eq_true rfl | exact trivial | assumption | omega | (show (_ ≤ _ ∧ _ ≤ _); omega) | (simp; omega) | exact ⟨by first | omega | (simp; omega), _, rfl, rfl⟩) ?_
      | refine Both.mk ?_ ?_
      | refine Exists.intro _ (And.intro rfl ?_)
      | refine fun _ => ?_))
    | exact rfl)
  all_goals first
    | exact h
    | (exfalso; simp_all; done)
    | skip
  all_goals (exfalso; rename_i e; exact e (by rw [mkL_len]))
end Go.Proofs.YtgfpcjomgmdapaaDoor
