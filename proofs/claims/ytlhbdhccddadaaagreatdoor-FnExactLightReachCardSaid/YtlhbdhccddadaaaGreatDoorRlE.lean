/-
How far a reader comes: the program's answer is the reference's, whatever the epoch and the links; its contract.
No conditions.
-/
import Derived.Test.YtlhbdhccddadaaaGreatDoorAsD
import Derived.Test.YtlhbdhccddadaaaGreatDoorLsA
namespace Go.Proofs.YtlhbdhccddadaaaGreatDoor
open Go Go.Vc
set_option maxHeartbeats 4000000
set_option maxRecDepth 10000
def c_laws_FnExactLightReach : Con := ⟨0, 0, false, fun xs hs Fs K => match xs with
  | [.agg [.val (.int .i64 _), .ints c, .ints k, .val (.int .i64 _)], .sl 7 rows] => hs = [] ∧ (hasTab Fs ∧ hasEt Fs) ∧ c.length ≤ 9223372036854775807 ∧ k.length ≤ 9223372036854775807 ∧ (∃ ls : List LkD, rows = ls.map LkD.row ∧ (∀ x ∈ ls, x.big) ∧ ls.length ≤ 9223372036854775807) ∧ K (B true) [] []
  | _ => False⟩
theorem k_laws_FnExactLightReach : Keeps' Tryz.prog 6 c_laws_FnExactLightReach := by
  refine keeps_of_vc mix TyT_ok (cok_cons k_laws_szEpoch Tryz.func16 rfl rfl (cok_cons k_laws_szLinkS Tryz.func17 rfl rfl (cok_cons k_laws_toEpoch Tryz.func18 rfl rfl (cok_cons k_laws_toLinkS Tryz.func19 rfl rfl (cok_cons k_spec_LightReach Tryz.func10 rfl rfl (cok_cons k_impl_LightReach Tryz.func9 rfl rfl (cok_cons k_laws_eqEpoch Tryz.func20 rfl rfl (cok_cons k_laws_eqLinkS Tryz.func21 rfl rfl cok_nil)))))))) Tryz.func6 rfl rfl rfl ?_
  intro aargs hs Fs K h
  simp only [c_laws_FnExactLightReach] at h
  split at h
  case h_2 => exact h.elim
  rename_i n c k r rows
  obtain ⟨rfl, ⟨hT, hE⟩, l1, l2, ⟨ls, rfl, hbig, l3⟩, h⟩ := h
  have hlen : (ls.map LkD.row).length = ls.length := by simp
  repeat' (first
    | ((conv => whnf); (first
      | refine draw_plan (id := 14) [] [] (.take 0 (.take 1 (.run 2 (.run 3 (.take 4 .done))))) (by kernel_rfl) (by kernel_rfl) ?_
      | refine brK_dec (fun _ => ?_) (fun _ => ?_)
      | refine brK_ndec (fun _ => ?_) (fun _ => ?_)
      | refine brK_not (fun _ => ?_) (fun _ => ?_)
      | refine brK_in (fun _ => ?_) (fun _ => ?_)
      | refine And.intro (by first | exact rfl | exact ⟨_, rfl, rfl⟩ | exact ⟨rfl, rfl, rfl⟩ | exact of_decide_eq_true rfl | exact trivial | assumption | omega | (show (_ ≤ _ ∧ _ ≤ _); omega) | (simp; omega) | exact ⟨by first | omega | (simp; omega), _, rfl, rfl⟩) ?_
      | refine Both.mk ?_ ?_
      | refine Exists.intro _ (And.intro rfl ?_)
      | refine fun _ => ?_))
    | exact rfl)
  · exact h
  rename_i h1
  obtain ⟨g1, g2⟩ := szE_le (by omega) h1
  have g3 := szE_top h1
  repeat' (first
    | ((conv => whnf); (first
      | refine draw_plan (id := 14) [] [] (.take 0 (.take 1 (.run 2 (.run 3 (.take 4 .done))))) (by kernel_rfl) (by kernel_rfl) ?_
      | refine brK_dec (fun _ => ?_) (fun _ => ?_)
      | refine brK_ndec (fun _ => ?_) (fun _ => ?_)
      | refine brK_not (fun _ => ?_) (fun _ => ?_)
      | refine brK_in (fun _ => ?_) (fun _ => ?_)
      | refine And.intro (by first | exact rfl | exact (by first | exact hbig | exact tab_app hT | exact et_app hE) | exact ⟨_, rfl, rfl⟩ | exact ⟨rfl, rfl, rfl⟩ | exact of_decide_eq_true rfl | exact trivial | assumption | omega | (show (_ ≤ _ ∧ _ ≤ _); omega) | (simp; omega) | exact ⟨by first | omega | (simp; omega), _, rfl, rfl⟩) ?_
      | refine Both.mk ?_ ?_
      | refine Exists.intro _ (And.intro rfl ?_)
      | refine fun _ => ?_))
    | exact rfl)
  · exact h
  rename_i v hv hfin hge
  obtain ⟨l4, hmid⟩ := hfin (by omega)
  have hsm : ∀ x ∈ ls, x.small := fun x hx => LkD.mid_small (hmid x hx)
  repeat' (first
    | ((conv => whnf); (first
      | refine draw_plan (id := 14) [] [] (.take 0 (.take 1 (.run 2 (.run 3 (.take 4 .done))))) (by kernel_rfl) (by kernel_rfl) ?_
      | refine brK_dec (fun _ => ?_) (fun _ => ?_)
      | refine brK_ndec (fun _ => ?_) (fun _ => ?_)
      | refine brK_not (fun _ => ?_) (fun _ => ?_)
      | refine brK_in (fun _ => ?_) (fun _ => ?_)
      | refine And.intro (by first | exact rfl | exact (by first | exact hmid | exact hsm | exact tab_app hT | exact et_app hE) | exact ⟨_, rfl, rfl⟩ | exact ⟨rfl, rfl, rfl⟩ | exact of_decide_eq_true rfl | exact trivial | assumption | omega | (show (_ ≤ _ ∧ _ ≤ _); omega) | (simp; omega) | exact ⟨by first | omega | (simp; omega), _, rfl, rfl⟩) ?_
      | refine Both.mk ?_ ?_
      | refine Exists.intro _ (And.intro rfl ?_)
      | refine fun _ => ?_))
    | exact rfl)
  · rename_i q
    exact absurd rfl q
  · rename_i q
    exact absurd ⟨rfl, rfl, rfl, rfl⟩ q
  · exact h
end Go.Proofs.YtlhbdhccddadaaaGreatDoor
