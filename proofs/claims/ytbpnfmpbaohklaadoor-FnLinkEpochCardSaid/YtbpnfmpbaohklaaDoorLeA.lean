/-
The law that a link is for one epoch: its contract.
No conditions.
-/
import Derived.Test.YtbpnfmpbaohklaaDoorDrL
import Derived.Test.YtbpnfmpbaohklaaDoorRtP
namespace Go.Proofs.YtbpnfmpbaohklaaDoor
open Go Go.Vc
set_option maxHeartbeats 4000000
set_option maxRecDepth 10000
def c_laws_FnLinkEpoch : Con := ⟨0, 0, false, fun xs hs Fs K => match xs with
  | [.bytes b, .bytes b'] => hs = [] ∧ hasTab Fs ∧ b.length ≤ 9223372036854775807 ∧ b'.length ≤ 9223372036854775807 ∧ K (B true) [] []
  | _ => False⟩
theorem k_laws_FnLinkEpoch : Keeps' Tryd.prog 9 c_laws_FnLinkEpoch := by
  refine keeps_of_vc mix TyT_ok (cok_cons k_spec_DrawLinkCheck Tryd.func39 rfl rfl (cok_cons (keeps_nil k_impl_LinkCheck) Tryd.func17 rfl rfl (cok_cons (keeps_nil k_spec_LinkCheck) Tryd.func14 rfl rfl cok_nil))) Tryd.func9 rfl rfl rfl ?_
  intro aargs hs Fs K h
  simp only [c_laws_FnLinkEpoch] at h
  split at h
  case h_2 => exact h.elim
  rename_i b b'
  obtain ⟨rfl, hT, hb, hb2, h⟩ := h
  repeat' (first
    | ((conv => whnf); (first
      | refine brK_dec (fun _ => ?_) (fun _ => ?_)
      | refine brK_ndec (fun _ => ?_) (fun _ => ?_)
      | refine brK_not (fun _ => ?_) (fun _ => ?_)
      | refine brK_in (fun _ => ?_) (fun _ => ?_)
      | refine And.intro (by first | exact rfl | exact (tab_app hT) | exact ⟨_, rfl, rfl⟩ | exact ⟨rfl, rfl, rfl⟩ | exact of_decide_eq_true rfl | exact trivial | assumption | omega | (show (_ ≤ _ ∧ _ ≤ _); omega) | (simp; omega) | exact ⟨by first | omega | (simp; omega), _, rfl, rfl⟩) ?_
      | refine Both.mk ?_ ?_
      | refine Exists.intro _ (And.intro rfl ?_)
      | refine fun _ => ?_))
    | exact rfl)
  all_goals first
    | exact h
    | (exfalso; simp_all; done)
    | skip
  · rename_i g1 g2 e x c1 k1 fx
    obtain ⟨fx1, fx2, fx3⟩ := fx
    repeat' (first
      | ((conv => whnf); (first
        | refine brK_dec (fun _ => ?_) (fun _ => ?_)
        | refine brK_ndec (fun _ => ?_) (fun _ => ?_)
        | refine brK_not (fun _ => ?_) (fun _ => ?_)
        | refine brK_in (fun _ => ?_) (fun _ => ?_)
        | refine And.intro (by first | exact rfl | exact (tab_app hT) | exact ⟨_, rfl, rfl⟩ | exact ⟨rfl, rfl, rfl⟩ | exact of_decide_eq_true rfl | exact trivial | assumption | omega | (show (_ ≤ _ ∧ _ ≤ _); omega) | (simp; omega) | exact ⟨by first | omega | (simp; omega), _, rfl, rfl⟩) ?_
        | refine Both.mk ?_ ?_
        | refine Exists.intro _ (And.intro rfl ?_)
        | refine fun _ => ?_))
      | exact rfl)
    all_goals first
      | exact h
      | (exfalso; simp_all; done)
      | skip
    · rw [beq_self_eq_true]; exact h
    · rename_i q0 q
      obtain ⟨a1, a2, a3, a4, a5⟩ := lkV_out q
      obtain ⟨_, ⟨d0, d1⟩, _, _⟩ := certV_out a5
      obtain ⟨⟨n0, n1⟩, _⟩ := EpV_out a2
      obtain ⟨⟨m0, m1⟩, _⟩ := EpV_out a1
      repeat' (first
        | ((conv => whnf); (first
          | refine brK_dec (fun _ => ?_) (fun _ => ?_)
          | refine brK_ndec (fun _ => ?_) (fun _ => ?_)
          | refine brK_not (fun _ => ?_) (fun _ => ?_)
          | refine brK_in (fun _ => ?_) (fun _ => ?_)
          | refine And.intro (by first | exact rfl | exact (tab_app hT) | exact ⟨_, rfl, rfl⟩ | exact ⟨rfl, rfl, rfl⟩ | exact of_decide_eq_true rfl | exact trivial | assumption | omega | (show (_ ≤ _ ∧ _ ≤ _); omega) | (simp; omega) | exact ⟨by first | omega | (simp; omega), _, rfl, rfl⟩) ?_
          | refine Both.mk ?_ ?_
          | refine Exists.intro _ (And.intro rfl ?_)
          | refine fun _ => ?_))
        | exact rfl)
      · rw [decide_eq_true a3]; exact h
      · rename_i z1 z2
        rw [link_far (by omega)] at z2
        cases z2
      · rename_i z1
        rw [link_other q (by omega)] at z1
        cases z1
  · rename_i g1 g2 e c1 k1 q0 q
    rw [beq_self_eq_true]; exact h
  · rename_i g1 g2 e c1 k1 q0 q
    rw [link_far (by omega)] at q
    cases q
  · rename_i g1 g2 e x c1 k1 fx
    obtain ⟨fx1, fx2, fx3⟩ := fx
    repeat' (first
      | ((conv => whnf); (first
        | refine brK_dec (fun _ => ?_) (fun _ => ?_)
        | refine brK_ndec (fun _ => ?_) (fun _ => ?_)
        | refine brK_not (fun _ => ?_) (fun _ => ?_)
        | refine brK_in (fun _ => ?_) (fun _ => ?_)
        | refine And.intro (by first | exact rfl | exact (tab_app hT) | exact ⟨_, rfl, rfl⟩ | exact ⟨rfl, rfl, rfl⟩ | exact of_decide_eq_true rfl | exact trivial | assumption | omega | (show (_ ≤ _ ∧ _ ≤ _); omega) | (simp; omega) | exact ⟨by first | omega | (simp; omega), _, rfl, rfl⟩) ?_
        | refine Both.mk ?_ ?_
        | refine Exists.intro _ (And.intro rfl ?_)
        | refine fun _ => ?_))
      | exact rfl)
    all_goals first
      | exact h
      | (exfalso; simp_all; done)
      | skip
    · rw [beq_self_eq_true]; exact h
    · rename_i q0 q
      obtain ⟨a1, a2, a3, a4, a5⟩ := lkV_out q
      obtain ⟨_, ⟨d0, d1⟩, _, _⟩ := certV_out a5
      obtain ⟨⟨n0, n1⟩, _⟩ := EpV_out a2
      obtain ⟨⟨m0, m1⟩, _⟩ := EpV_out a1
      repeat' (first
        | ((conv => whnf); (first
          | refine brK_dec (fun _ => ?_) (fun _ => ?_)
          | refine brK_ndec (fun _ => ?_) (fun _ => ?_)
          | refine brK_not (fun _ => ?_) (fun _ => ?_)
          | refine brK_in (fun _ => ?_) (fun _ => ?_)
          | refine And.intro (by first | exact rfl | exact (tab_app hT) | exact ⟨_, rfl, rfl⟩ | exact ⟨rfl, rfl, rfl⟩ | exact of_decide_eq_true rfl | exact trivial | assumption | omega | (show (_ ≤ _ ∧ _ ≤ _); omega) | (simp; omega) | exact ⟨by first | omega | (simp; omega), _, rfl, rfl⟩) ?_
          | refine Both.mk ?_ ?_
          | refine Exists.intro _ (And.intro rfl ?_)
          | refine fun _ => ?_))
        | exact rfl)
      · rw [decide_eq_true a3]; exact h
      · rename_i z1 z2
        rw [link_far (by omega)] at z2
        cases z2
      · rename_i z1
        rw [link_other q (by omega)] at z1
        cases z1
end Go.Proofs.YtbpnfmpbaohklaaDoor
