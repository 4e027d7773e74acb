/-
The drawn epoch of the law on valid epochs.
No conditions.
-/
import Derived.Test.YtenflffikgfphaaDoorDrC
namespace Go.Proofs.YtenflffikgfphaaDoor
open Go Go.Vc
set_option maxHeartbeats 1000000
set_option maxRecDepth 10000
def c_spec_l6Open : Con := ⟨1, 0, false, fun xs hs _ K => match xs with
  | [.bytes b] => hs = [] ∧ b.length ≤ 1048576 ∧ ∀ b', b'.length ≤ 2000 → K (.ptr 0 0) [rdO b' 0] []
  | _ => False⟩
theorem k_spec_l6Open : Keeps' Tryd.prog 23 c_spec_l6Open := by
  refine keeps_of_vc mix TyT_ok cok_nil Tryd.func23 rfl rfl rfl ?_
  intro aargs hs Fs K h
  simp only [c_spec_l6Open] at h
  split at h
  case h_2 => exact h.elim
  rename_i b
  obtain ⟨rfl, hb, h⟩ := h
  repeat' (first
    | ((conv => whnf); (first
      | refine brK_dec (fun _ => ?_) (fun _ => ?_)
      | refine brK_ndec (fun _ => ?_) (fun _ => ?_)
      | refine brK_not (fun _ => ?_) (fun _ => ?_)
      | refine brK_in (fun _ => ?_) (fun _ => ?_)
      | refine And.intro (by first | exact rfl | exact ⟨_, rfl, rfl⟩ | exact ⟨rfl, rfl, rfl⟩ | exact of_decide_eq_true rfl | exact trivial | assumption | omega | (show (_ ≤ _ ∧ _ ≤ _); omega) | (simp; omega) | exact ⟨by first | omega | (simp; omega), _, rfl, rfl⟩) ?_
      | refine Both.mk ?_ ?_
      | refine Exists.intro _ (And.intro rfl ?_)
      | refine fun _ => ?_))
    | exact rfl)
  · exact h _ (by simp; omega)
  · exact h _ (by omega)
def c_spec_l92Epoch : Con := ⟨3, 1, false, fun xs hs _ K => match xs, hs with
  | [.ptr 0 0], [.cells [.bytes b, .val (.int .i64 off)]] =>
    b.length ≤ 2000 ∧ 0 ≤ off ∧ off ≤ 900000 ∧ ∀ off' n c k r s, off ≤ off' → off' ≤ off + 300 → 0 ≤ n → n ≤ 99 → 0 ≤ r → r ≤ 990 → 1 ≤ c.length → c.length ≤ 20 → comV c = true → k.length = c.length → s.length = c.length →
      K (.tup [.agg [I n, .own 1, .own 2, I r], .own 3]) [rdO b off', .iarr c, .iarr k, .iarr s] []
  | _, _ => False⟩
theorem comV_pos {c : List Int} (h : comV c = true) : 1 ≤ c.length := by
  simp [comV, inR] at h
  omega
end Go.Proofs.YtenflffikgfphaaDoor
