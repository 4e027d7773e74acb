/-
The drawn epoch of the law on valid epochs, from outside.
No conditions.
-/
import Derived.Test.YtpbpabhkkfgheaaDoorDrD
namespace Go.Proofs.YtpbpabhkkfgheaaDoor
open Go Go.Vc
set_option maxHeartbeats 1000000
set_option maxRecDepth 10000
def c_spec_DrawEpochValid : Con := ⟨2, 0, false, fun xs hs _ K => match xs with
  | [.bytes b] => hs = [] ∧ b.length ≤ 1048576 ∧ ∀ n c k r, c.length ≤ 20 → k.length ≤ 21 → K (.agg [I n, .own 0, .own 1, I r]) [.iarr c, .iarr k] []
  | _ => False⟩
theorem k_spec_DrawEpochValid : Keeps' Tryd.prog 31 c_spec_DrawEpochValid := by
  refine keeps_of_vc mix TyT_ok (cok_cons k_spec_l6Open Tryd.func32 rfl rfl (cok_cons k_spec_l92Epoch Tryd.func51 rfl rfl (cok_cons k_spec_l6Rd_pick Tryd.func34 rfl rfl (cok_cons k_spec_l92Spoilt Tryd.func52 rfl rfl cok_nil)))) Tryd.func31 rfl rfl rfl ?_
  intro aargs hs Fs K h
  simp only [c_spec_DrawEpochValid] at h
  split at h
  case h_2 => exact h.elim
  rename_i b
  obtain ⟨rfl, hb, h⟩ := h
  repeat' (first
    | ((conv => whnf); (first
      | refine brK_dec (fun _ => ?_) (fun _ => ?_)
      | refine brK_ndec (fun _ => ?_) (fun _ => ?_)
      | refine brK_not (fun _ => ?_) (fun _ => ?_)
      | refine brK_in (fun _ => ?_) (fun _ => ?_)
      | refine And.intro (by first | exact rfl | exact ⟨_, rfl, rfl⟩ | exact ⟨rfl, rfl, rfl⟩ | exact of_decide_eq_true rfl | exact trivial | assumption | omega | (show (_ ≤ _ ∧ _ ≤ _); omega) | (simp; omega) | exact ⟨by first | omega | (simp; omega), _, rfl, rfl⟩) ?_
      | refine Both.mk ?_ ?_
      | refine Exists.intro _ (And.intro rfl ?_)
      | refine fun _ => ?_))
    | exact rfl)
  · exact h _ _ _ _ (by omega) (by omega)
  · exact h _ _ _ _ (by omega) (by omega)
end Go.Proofs.YtpbpabhkkfgheaaDoor
