/-
What a reader of receipts accepts: the program's answer is the reference's, whatever comes in; its contract.
No conditions.
-/
import Derived.Test.YtlhbdhccddadaaaDoorLaA
import Derived.Test.YtlhbdhccddadaaaDoorLsA
namespace Go.Proofs.YtlhbdhccddadaaaDoor
open Go Go.Vc
set_option maxHeartbeats 4000000
set_option maxRecDepth 10000
def c_laws_toReceipt : Con := ⟨0, 0, false, fun xs hs _ K => match xs with
  | [.agg [.val (.int .i64 i), .val (.bool d), .val (.int .i64 g)]] => hs = [] ∧ K (.agg [I i, B d, I g]) [] []
  | _ => False⟩
theorem k_laws_toReceipt : Keeps' Tryd.prog 26 c_laws_toReceipt := by
  refine keeps_of_vc mix TyT_ok cok_nil Tryd.func26 rfl rfl rfl ?_
  intro aargs hs Fs K h
  simp only [c_laws_toReceipt] at h
  split at h
  case h_2 => exact h.elim
  rename_i i d g
  obtain ⟨rfl, h⟩ := h
  repeat' (first
    | ((conv => whnf); (first
      | refine brK_dec (fun _ => ?_) (fun _ => ?_)
      | refine brK_ndec (fun _ => ?_) (fun _ => ?_)
      | refine brK_not (fun _ => ?_) (fun _ => ?_)
      | refine brK_in (fun _ => ?_) (fun _ => ?_)
      | refine And.intro (by first | exact rfl | exact ⟨_, rfl, rfl⟩ | exact ⟨rfl, rfl, rfl⟩ | exact of_decide_eq_true rfl | exact trivial | assumption | omega | (show (_ ≤ _ ∧ _ ≤ _); omega) | (simp; omega) | exact ⟨by first | omega | (simp; omega), _, rfl, rfl⟩) ?_
      | refine Both.mk ?_ ?_
      | refine Exists.intro _ (And.intro rfl ?_)
      | refine fun _ => ?_))
    | exact rfl)
  exact h
def c_laws_FnExactLightAccept : Con := ⟨0, 0, false, fun xs hs Fs K => match xs with
  | [.agg [.val (.int .i64 _), .ints c, .ints k, .val (.int .i64 _)], .sl 7 rows, .val (.int .i64 _), .agg [.val (.int .i64 _), .val (.bool _), .val (.int .i64 _)], .ints p] =>
    hs = [] ∧ hasTab Fs ∧ c.length ≤ 9223372036854775807 ∧ k.length ≤ 9223372036854775807 ∧ (∃ ls : List LkD, rows = ls.map LkD.row ∧ (∀ x ∈ ls, x.big) ∧ ls.length ≤ 9223372036854775807) ∧ p.length ≤ 9223372036854775807 ∧ K (B true) [] []
  | _ => False⟩
theorem k_laws_FnExactLightAccept : Keeps' Tryd.prog 5 c_laws_FnExactLightAccept := by
  refine keeps_of_vc mix TyT_ok (cok_cons k_laws_szEpoch Tryd.func6 rfl rfl (cok_cons k_laws_szLinkS Tryd.func18 rfl rfl (cok_cons k_laws_toEpoch Tryd.func8 rfl rfl (cok_cons k_laws_toLinkS Tryd.func20 rfl rfl (cok_cons k_laws_toReceipt Tryd.func26 rfl rfl (cok_cons k_laws_toIntS Tryd.func9 rfl rfl (cok_cons k_spec_LightAccept Tryd.func25 rfl rfl (cok_cons k_impl_LightAccept Tryd.func27 rfl rfl (cok_cons k_laws_eqEpoch Tryd.func12 rfl rfl (cok_cons k_laws_eqLinkS Tryd.func22 rfl rfl (cok_cons k_laws_eqIntS Tryd.func13 rfl rfl cok_nil))))))))))) Tryd.func5 rfl rfl rfl ?_
  intro aargs hs Fs K h
  simp only [c_laws_FnExactLightAccept] at h
  split at h
  case h_2 => exact h.elim
  rename_i n c k r rows s i d g p
  obtain ⟨rfl, hT, l1, l2, ⟨ls, rfl, hbig, l3⟩, l5, h⟩ := h
  have hlen : (ls.map LkD.row).length = ls.length := by simp
  repeat' (first
    | ((conv => whnf); (first
      | refine draw_plan (id := 10) [] [] (.take 0 (.take 2 (.take 4 (.take 5 (.take 7 (.run 1 (.run 3 (.run 6 (.run 8 (.run 9 (.take 10 .done))))))))))) (by kernel_rfl) (by kernel_rfl) ?_
      | refine draw_plan (id := 14) [] [] (.take 0 (.take 1 (.take 2 (.take 3 (.take 5 (.run 4 (.run 6 (.take 7 .done)))))))) (by kernel_rfl) (by kernel_rfl) ?_
      | refine draw_plan (id := 17) [] [] (.take 0 (.take 1 (.run 2 (.run 3 (.take 4 .done))))) (by kernel_rfl) (by kernel_rfl) ?_
      | refine brK_dec (fun _ => ?_) (fun _ => ?_)
      | refine brK_ndec (fun _ => ?_) (fun _ => ?_)
      | refine brK_not (fun _ => ?_) (fun _ => ?_)
      | refine brK_in (fun _ => ?_) (fun _ => ?_)
      | refine And.intro (by first | exact rfl | exact ⟨_, rfl, rfl⟩ | exact ⟨rfl, rfl, rfl⟩ | exact of_decide_eq_true rfl | exact trivial | assumption | omega | (show (_ ≤ _ ∧ _ ≤ _); omega) | (simp; omega) | exact ⟨by first | omega | (simp; omega), _, rfl, rfl⟩) ?_
      | refine Both.mk ?_ ?_
      | refine Exists.intro _ (And.intro rfl ?_)
      | refine fun _ => ?_))
    | exact rfl)
  · exact h
  · exact h
  rename_i hp h1
  obtain ⟨g1, g2⟩ := szE_le (by omega) h1
  have g3 := szE_top h1
  repeat' (first
    | ((conv => whnf); (first
      | refine draw_plan (id := 10) [] [] (.take 0 (.take 2 (.take 4 (.take 5 (.take 7 (.run 1 (.run 3 (.run 6 (.run 8 (.run 9 (.take 10 .done))))))))))) (by kernel_rfl) (by kernel_rfl) ?_
      | refine draw_plan (id := 14) [] [] (.take 0 (.take 1 (.take 2 (.take 3 (.take 5 (.run 4 (.run 6 (.take 7 .done)))))))) (by kernel_rfl) (by kernel_rfl) ?_
      | refine draw_plan (id := 17) [] [] (.take 0 (.take 1 (.run 2 (.run 3 (.take 4 .done))))) (by kernel_rfl) (by kernel_rfl) ?_
      | refine brK_dec (fun _ => ?_) (fun _ => ?_)
      | refine brK_ndec (fun _ => ?_) (fun _ => ?_)
      | refine brK_not (fun _ => ?_) (fun _ => ?_)
      | refine brK_in (fun _ => ?_) (fun _ => ?_)
      | refine And.intro (by first | exact rfl | exact (by first | exact hbig | exact tab_app hT) | exact ⟨_, rfl, rfl⟩ | exact ⟨rfl, rfl, rfl⟩ | exact of_decide_eq_true rfl | exact trivial | assumption | omega | (show (_ ≤ _ ∧ _ ≤ _); omega) | (simp; omega) | exact ⟨by first | omega | (simp; omega), _, rfl, rfl⟩) ?_
      | refine Both.mk ?_ ?_
      | refine Exists.intro _ (And.intro rfl ?_)
      | refine fun _ => ?_))
    | exact rfl)
  · exact h
  rename_i v hv hfin hge
  obtain ⟨l4, hmid⟩ := hfin (by omega)
  have hsm : ∀ x ∈ ls, x.small := fun x hx => LkD.mid_small (hmid x hx)
  repeat' (first
    | ((conv => whnf); (first
      | refine draw_plan (id := 10) [] [] (.take 0 (.take 2 (.take 4 (.take 5 (.take 7 (.run 1 (.run 3 (.run 6 (.run 8 (.run 9 (.take 10 .done))))))))))) (by kernel_rfl) (by kernel_rfl) ?_
      | refine draw_plan (id := 14) [] [] (.take 0 (.take 1 (.take 2 (.take 3 (.take 5 (.run 4 (.run 6 (.take 7 .done)))))))) (by kernel_rfl) (by kernel_rfl) ?_
      | refine draw_plan (id := 17) [] [] (.take 0 (.take 1 (.run 2 (.run 3 (.take 4 .done))))) (by kernel_rfl) (by kernel_rfl) ?_
      | refine brK_dec (fun _ => ?_) (fun _ => ?_)
      | refine brK_ndec (fun _ => ?_) (fun _ => ?_)
      | refine brK_not (fun _ => ?_) (fun _ => ?_)
      | refine brK_in (fun _ => ?_) (fun _ => ?_)
      | refine And.intro (by first | exact rfl | exact (by first | exact hmid | exact hsm | exact tab_app hT) | exact ⟨_, rfl, rfl⟩ | exact ⟨rfl, rfl, rfl⟩ | exact of_decide_eq_true rfl | exact trivial | assumption | omega | (show (_ ≤ _ ∧ _ ≤ _); omega) | (simp; omega) | exact ⟨by first | omega | (simp; omega), _, rfl, rfl⟩) ?_
      | refine Both.mk ?_ ?_
      | refine Exists.intro _ (And.intro rfl ?_)
      | refine fun _ => ?_))
    | exact rfl)
  all_goals first
    | exact h
    | (rename_i q; exact absurd rfl q)
    | (rename_i q; exact absurd ⟨rfl, rfl, rfl, rfl⟩ q)
    | trace_state
end Go.Proofs.YtlhbdhccddadaaaDoor
