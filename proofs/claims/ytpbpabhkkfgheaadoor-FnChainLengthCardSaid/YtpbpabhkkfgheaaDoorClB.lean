/-
The law that each link is one epoch: its contract.
No conditions.
-/
import Derived.Test.YtpbpabhkkfgheaaDoorClA
namespace Go.Proofs.YtpbpabhkkfgheaaDoor
open Go Go.Vc
set_option maxHeartbeats 4000000
set_option maxRecDepth 10000
def c_laws_FnChainLength : Con := ⟨0, 0, false, fun xs hs Fs K => match xs with
  | [.bytes b0] => hs = [] ∧ hasTab Fs ∧ b0.length ≤ 9223372036854775807 ∧ K (B true) [] []
  | _ => False⟩
theorem k_laws_FnChainLength : Keeps' Tryd.prog 6 c_laws_FnChainLength := by
  refine keeps_of_vc mix TyT_ok (cok_cons k_spec_DrawChainCheck Tryd.func16 rfl rfl (cok_cons k_impl_ChainCheck Tryd.func17 rfl rfl (cok_cons k_spec_ChainCheck Tryd.func18 rfl rfl (cok_cons (keeps_nil k_laws_sameEpoch) Tryd.func19 rfl rfl (cok_cons k_impl_EpochValid Tryd.func20 rfl rfl cok_nil))))) Tryd.func6 rfl rfl rfl ?_
  intro aargs hs Fs K h
  simp only [c_laws_FnChainLength] at h
  split at h
  case h_2 => exact h.elim
  rename_i b0
  obtain ⟨rfl, hT, hb0, h⟩ := h
  repeat' (first
    | ((conv => whnf); (first
      | refine brK_dec (fun _ => ?_) (fun _ => ?_)
      | refine brK_ndec (fun _ => ?_) (fun _ => ?_)
      | refine brK_not (fun _ => ?_) (fun _ => ?_)
      | refine brK_in (fun _ => ?_) (fun _ => ?_)
      | refine And.intro (by first | exact rfl | exact (tab_app hT) | exact ⟨_, rfl, rfl⟩ | exact ⟨rfl, rfl, rfl⟩ | exact of_decide_eq_true rfl | exact trivial | assumption | omega | (show (_ ≤ _ ∧ _ ≤ _); omega) | (simp; omega) | exact ⟨by first | omega | (simp; omega), _, rfl, rfl⟩) ?_
      | refine Both.mk ?_ ?_
      | refine Exists.intro _ (And.intro rfl ?_)
      | refine fun _ => ?_))
    | exact rfl)
  · exact h
  rename_i hc0 e ls he hls hl
  have hl1 := last_small he hls
  have hl2 := hl1.2
  have hl1 := hl1.1
  have he1 := he.1
  have he2 := he.2
  have hlen : (ls.map LkD.row).length = ls.length := by simp
  repeat' (first
    | ((conv => whnf); (first
      | refine brK_dec (fun _ => ?_) (fun _ => ?_)
      | refine brK_ndec (fun _ => ?_) (fun _ => ?_)
      | refine brK_not (fun _ => ?_) (fun _ => ?_)
      | refine brK_in (fun _ => ?_) (fun _ => ?_)
      | refine And.intro (by first | exact rfl | exact (by first | exact tab_app hT | exact hls) | exact ⟨_, rfl, rfl⟩ | exact ⟨rfl, rfl, rfl⟩ | exact of_decide_eq_true rfl | exact trivial | assumption | omega | (show (_ ≤ _ ∧ _ ≤ _); omega) | (simp; omega) | exact ⟨by first | omega | (simp; omega), _, rfl, rfl⟩) ?_
      | refine Both.mk ?_ ?_
      | refine Exists.intro _ (And.intro rfl ?_)
      | refine fun _ => ?_))
    | exact rfl)
  all_goals first
    | exact h
    | (exfalso; simp_all; done)
    | skip
  rename_i q1 q2 q3
  have q1 : accV e ls = true := q1
  have q1' := q1
  simp only [accV, Bool.and_eq_true] at q1'
  obtain ⟨hok, hch⟩ := q1'
  have hok' : EpV e.n e.c e.k e.r = true := hok
  obtain ⟨⟨n0, n1⟩, _⟩ := EpV_out hok'
  have hn := chain_num ls e hch
  have hEv : EpV (lastE e ls).n (lastE e ls).c (lastE e ls).k (lastE e ls).r = true := chain_ok ls e hok hch
  repeat' (first
    | ((conv => whnf); (first
      | refine brK_dec (fun _ => ?_) (fun _ => ?_)
      | refine brK_ndec (fun _ => ?_) (fun _ => ?_)
      | refine brK_not (fun _ => ?_) (fun _ => ?_)
      | refine brK_in (fun _ => ?_) (fun _ => ?_)
      | refine And.intro (by first | exact rfl | exact ⟨_, rfl, rfl⟩ | exact ⟨rfl, rfl, rfl⟩ | exact of_decide_eq_true rfl | exact trivial | assumption | omega | (show (_ ≤ _ ∧ _ ≤ _); omega) | (simp; omega) | exact ⟨by first | omega | (simp; omega), _, rfl, rfl⟩) ?_
      | refine Both.mk ?_ ?_
      | refine Exists.intro _ (And.intro rfl ?_)
      | refine fun _ => ?_))
    | exact rfl)
  · exact (show ∀ v, v = true → K (B v) [] [] from fun v hv => by rw [hv]; exact h) _ hEv
  · rename_i q4
    exact absurd (show (lastE e ls).n = e.n + ((ls.map LkD.row).length : Int) by rw [hlen]; exact hn) q4
end Go.Proofs.YtpbpabhkkfgheaaDoor
