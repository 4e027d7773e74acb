/-
Drawn epochs.
No conditions.
-/
import Derived.Test.YtenflffikgfphaaDoorDrB
import Derived.Test.YtenflffikgfphaaDoorCpA
namespace Go.Proofs.YtenflffikgfphaaDoor
open Go Go.Vc
set_option maxHeartbeats 1000000
set_option maxRecDepth 10000
def c_spec_l91Key : Con := ⟨0, 1, false, fun xs hs _ K => match xs, hs with
  | [.ptr 0 0], [.cells [.bytes b, .val (.int .i64 off)]] =>
    b.length ≤ 2000 ∧ 0 ≤ off ∧ off ≤ 1000000 ∧ ∀ off' v, off ≤ off' → off' ≤ off + 3 → -1 ≤ v → v ≤ 1000 → K (I v) [rdO b off'] []
  | _, _ => False⟩
def c_spec_l91Digest : Con := ⟨0, 1, false, fun xs hs _ K => match xs, hs with
  | [.ptr 0 0], [.cells [.bytes b, .val (.int .i64 off)]] =>
    b.length ≤ 2000 ∧ 0 ≤ off ∧ off ≤ 1000000 ∧ ∀ off' v, off ≤ off' → off' ≤ off + 3 → -1 ≤ v → v ≤ 1000 → K (I v) [rdO b off'] []
  | _, _ => False⟩
theorem k_spec_l91Digest : Keeps' Tryd.prog 64 c_spec_l91Digest := by
  refine keeps_of_vc mix TyT_ok (cok_cons k_spec_l6Rd_pick Tryd.func39 rfl rfl cok_nil) Tryd.func64 rfl rfl rfl ?_
  intro aargs hs Fs K h
  simp only [c_spec_l91Digest] at h
  split at h
  case h_2 => exact h.elim
  rename_i b off
  obtain ⟨hb, h0, h1, h⟩ := h
  repeat' (first
    | ((conv => whnf); (first
      | refine brK_dec (fun _ => ?_) (fun _ => ?_)
      | refine brK_ndec (fun _ => ?_) (fun _ => ?_)
      | refine brK_not (fun _ => ?_) (fun _ => ?_)
      | refine brK_in (fun _ => ?_) (fun _ => ?_)
      | refine And.intro (by first | exact rfl | exact ⟨_, rfl, rfl⟩ | exact ⟨rfl, rfl, rfl⟩ | exact of_decide_eq_true rfl | exact trivial | assumption | omega | (show (_ ≤ _ ∧ _ ≤ _); omega) | (simp; omega) | exact ⟨by first | omega | (simp; omega), _, rfl, rfl⟩) ?_
      | refine Both.mk ?_ ?_
      | refine Exists.intro _ (And.intro rfl ?_)
      | refine fun _ => ?_))
    | exact rfl)
  · rename_i q hq
    have := List.mem_of_getElem? hq
    simp at this
    exact h _ _ (by omega) (by omega) (by omega) (by omega)
  · exact h _ _ (by omega) (by omega) (by omega) (by omega)
def c_spec_l92Spoilt : Con := ⟨2, 1, false, fun xs hs _ K => match xs, hs with
  | [.ptr 0 0, .agg [.val (.int .i64 _), .ints c, .ints k, .val (.int .i64 _)]], [.cells [.bytes b, .val (.int .i64 off)]] =>
    b.length ≤ 2000 ∧ 0 ≤ off ∧ off ≤ 900000 ∧ 1 ≤ c.length ∧ c.length ≤ 20 ∧ k.length = c.length ∧
      ∀ off' n' c' k' r', off ≤ off' → off' ≤ off + 10 → c'.length ≤ 20 → k'.length ≤ 21 → K (.agg [I n', .own 1, .own 2, I r']) [rdO b off', .iarr c', .iarr k'] []
  | _, _ => False⟩
end Go.Proofs.YtenflffikgfphaaDoor
