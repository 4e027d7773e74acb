/-
The laws on made links: their contracts.
No conditions.
-/
import Derived.Test.YtbpnfmpbaohklaaDoorDrI
import Derived.Test.YtbpnfmpbaohklaaDoorLmB
import Derived.Test.YtbpnfmpbaohklaaDoorRtP
import Derived.Test.YtbpnfmpbaohklaaDoorLxD
namespace Go.Proofs.YtbpnfmpbaohklaaDoor
open Go Go.Vc
set_option maxHeartbeats 4000000
set_option maxRecDepth 10000
theorem sgn_lt {g : List Int} {n : Nat} (h : n ≤ 30) : (sgnL g n).length < 2000000 := by
  have := sgnL_len g n
  omega
def c_laws_FnLinkRoundTrip : Con := ⟨0, 0, false, fun xs hs Fs K => match xs with
  | [.bytes b] => hs = [] ∧ hasTab Fs ∧ b.length ≤ 9223372036854775807 ∧ K (B true) [] []
  | _ => False⟩
theorem k_laws_FnLinkRoundTrip : Keeps' Tryd.prog 10 c_laws_FnLinkRoundTrip := by
  refine keeps_of_vc mix TyT_ok (cok_cons k_spec_DrawLinkMake Tryd.func36 rfl rfl (cok_cons k_impl_LinkMake Tryd.func29 rfl rfl (cok_cons k_spec_LinkMake Tryd.func27 rfl rfl (cok_cons (keeps_nil k_laws_sameLink) Tryd.func37 rfl rfl (cok_cons k_impl_LinkCheck Tryd.func17 rfl rfl (cok_cons k_laws_sameEpoch Tryd.func40 rfl rfl cok_nil)))))) Tryd.func10 rfl rfl rfl ?_
  intro aargs hs Fs K h
  simp only [c_laws_FnLinkRoundTrip] at h
  split at h
  case h_2 => exact h.elim
  rename_i b
  obtain ⟨rfl, hT, hb, h⟩ := h
  repeat' (first
    | ((conv => whnf); (first
      | refine brK_dec (fun _ => ?_) (fun _ => ?_)
      | refine brK_ndec (fun _ => ?_) (fun _ => ?_)
      | refine brK_not (fun _ => ?_) (fun _ => ?_)
      | refine brK_in (fun _ => ?_) (fun _ => ?_)
      | refine And.intro (by first | exact rfl | exact (by first | exact tab_app hT | exact sgn_lt (by assumption)) | exact ⟨_, rfl, rfl⟩ | exact ⟨rfl, rfl, rfl⟩ | exact of_decide_eq_true rfl | exact trivial | assumption | omega | (show (_ ≤ _ ∧ _ ≤ _); omega) | (simp; omega) | exact ⟨by first | omega | (simp; omega), _, rfl, rfl⟩) ?_
      | refine Both.mk ?_ ?_
      | refine Exists.intro _ (And.intro rfl ?_)
      | refine fun _ => ?_))
    | exact rfl)
  all_goals first
    | exact h
    | (exfalso; simp_all; done)
    | skip
  · rw [decide_eq_true ⟨rfl, rfl, rfl, rfl⟩]; exact h
  · rename_i hb2 n c k r n2 c2 k2 r2 s z1 z2 z3 z4 z5 e1 e2 e3 e4
    rw [link_made e1] at e4
    cases e4
end Go.Proofs.YtbpnfmpbaohklaaDoor
