/-
The law on the check of a link: its contract.
No conditions.
-/
import Derived.Test.YtbpnfmpbaohklaaDoorLkA
import Derived.Test.YtbpnfmpbaohklaaDoorLxC
namespace Go.Proofs.YtbpnfmpbaohklaaDoor
open Go Go.Vc
set_option maxHeartbeats 4000000
set_option maxRecDepth 10000
def c_laws_FnExactLinkCheck : Con := ⟨0, 0, false, fun xs hs Fs K => match xs with
  | [.agg [.val (.int .i64 n), .ints c, .ints k, .val (.int .i64 r)], .agg [.val (.int .i64 n2), .ints c2, .ints k2, .val (.int .i64 r2), .val (.int .i64 d), .ints s, .val (.int .i64 m)]] =>
    hs = [] ∧ hasTab Fs ∧ c.length ≤ 9223372036854775807 ∧ k.length ≤ 9223372036854775807 ∧ c2.length ≤ 9223372036854775807 ∧ k2.length ≤ 9223372036854775807 ∧ s.length ≤ 9223372036854775807 ∧ K (B true) [] []
  | _ => False⟩
theorem k_laws_FnExactLinkCheck : Keeps' Tryd.prog 3 c_laws_FnExactLinkCheck := by
  refine keeps_of_vc mix TyT_ok (cok_cons k_laws_szEpoch Tryd.func12 rfl rfl (cok_cons k_laws_szLink Tryd.func13 rfl rfl (cok_cons k_laws_toEpoch Tryd.func15 rfl rfl (cok_cons k_laws_toLink Tryd.func16 rfl rfl (cok_cons k_spec_LinkCheck Tryd.func14 rfl rfl (cok_cons k_impl_LinkCheck Tryd.func17 rfl rfl (cok_cons k_laws_eqEpoch Tryd.func18 rfl rfl (cok_cons k_laws_eqLink Tryd.func19 rfl rfl cok_nil)))))))) Tryd.func3 rfl rfl rfl ?_
  intro aargs hs Fs K h
  simp only [c_laws_FnExactLinkCheck] at h
  split at h
  case h_2 => exact h.elim
  rename_i n c k r n2 c2 k2 r2 d s m
  obtain ⟨rfl, hT, l1, l2, l3, l4, l5, h⟩ := h
  repeat' (first
    | ((conv => whnf); (first
      | refine draw_plan (id := 8) [] [] (.take 0 (.take 2 (.run 1 (.run 3 (.run 4 (.take 5 .done)))))) (by kernel_rfl) (by kernel_rfl) ?_
      | refine draw_plan (id := 14) [] [] (.take 0 (.take 1 (.run 2 (.run 3 (.take 4 .done))))) (by kernel_rfl) (by kernel_rfl) ?_
      | refine draw_plan (id := 16) [] [] (.take 0 (.take 1 (.run 2 (.run 3 (.take 4 .done))))) (by kernel_rfl) (by kernel_rfl) ?_
      | refine brK_dec (fun _ => ?_) (fun _ => ?_)
      | refine brK_ndec (fun _ => ?_) (fun _ => ?_)
      | refine brK_not (fun _ => ?_) (fun _ => ?_)
      | refine brK_in (fun _ => ?_) (fun _ => ?_)
      | refine And.intro (by first | exact rfl | exact (tab_app hT) | exact ⟨_, rfl, rfl⟩ | exact ⟨rfl, rfl, rfl⟩ | exact of_decide_eq_true rfl | exact trivial | assumption | omega | (show (_ ≤ _ ∧ _ ≤ _); omega) | (simp; omega) | exact ⟨by first | omega | (simp; omega), _, rfl, rfl⟩) ?_
      | refine Both.mk ?_ ?_
      | refine Exists.intro _ (And.intro rfl ?_)
      | refine fun _ => ?_))
    | exact rfl)
  · exact h
  rename_i h1
  obtain ⟨g1, g2⟩ := szE_le (by omega) h1
  have g3 := szE_top h1
  repeat' (first
    | ((conv => whnf); (first
      | refine draw_plan (id := 8) [] [] (.take 0 (.take 2 (.run 1 (.run 3 (.run 4 (.take 5 .done)))))) (by kernel_rfl) (by kernel_rfl) ?_
      | refine draw_plan (id := 14) [] [] (.take 0 (.take 1 (.run 2 (.run 3 (.take 4 .done))))) (by kernel_rfl) (by kernel_rfl) ?_
      | refine draw_plan (id := 16) [] [] (.take 0 (.take 1 (.run 2 (.run 3 (.take 4 .done))))) (by kernel_rfl) (by kernel_rfl) ?_
      | refine brK_dec (fun _ => ?_) (fun _ => ?_)
      | refine brK_ndec (fun _ => ?_) (fun _ => ?_)
      | refine brK_not (fun _ => ?_) (fun _ => ?_)
      | refine brK_in (fun _ => ?_) (fun _ => ?_)
      | refine And.intro (by first | exact rfl | exact (tab_app hT) | exact ⟨_, rfl, rfl⟩ | exact ⟨rfl, rfl, rfl⟩ | exact of_decide_eq_true rfl | exact trivial | assumption | omega | (show (_ ≤ _ ∧ _ ≤ _); omega) | (simp; omega) | exact ⟨by first | omega | (simp; omega), _, rfl, rfl⟩) ?_
      | refine Both.mk ?_ ?_
      | refine Exists.intro _ (And.intro rfl ?_)
      | refine fun _ => ?_))
    | exact rfl)
  · exact h
  rename_i h2
  obtain ⟨g4, g5, g6, g7⟩ := szL_le (by omega) h2
  repeat' (first
    | ((conv => whnf); (first
      | refine draw_plan (id := 8) [] [] (.take 0 (.take 2 (.run 1 (.run 3 (.run 4 (.take 5 .done)))))) (by kernel_rfl) (by kernel_rfl) ?_
      | refine draw_plan (id := 14) [] [] (.take 0 (.take 1 (.run 2 (.run 3 (.take 4 .done))))) (by kernel_rfl) (by kernel_rfl) ?_
      | refine draw_plan (id := 16) [] [] (.take 0 (.take 1 (.run 2 (.run 3 (.take 4 .done))))) (by kernel_rfl) (by kernel_rfl) ?_
      | refine brK_dec (fun _ => ?_) (fun _ => ?_)
      | refine brK_ndec (fun _ => ?_) (fun _ => ?_)
      | refine brK_not (fun _ => ?_) (fun _ => ?_)
      | refine brK_in (fun _ => ?_) (fun _ => ?_)
      | refine And.intro (by first | exact rfl | exact (tab_app hT) | exact ⟨_, rfl, rfl⟩ | exact ⟨rfl, rfl, rfl⟩ | exact of_decide_eq_true rfl | exact trivial | assumption | omega | (show (_ ≤ _ ∧ _ ≤ _); omega) | (simp; omega) | exact ⟨by first | omega | (simp; omega), _, rfl, rfl⟩) ?_
      | refine Both.mk ?_ ?_
      | refine Exists.intro _ (And.intro rfl ?_)
      | refine fun _ => ?_))
    | exact rfl)
  all_goals first
    | exact h
    | (exfalso; simp_all; done)
end Go.Proofs.YtbpnfmpbaohklaaDoor
