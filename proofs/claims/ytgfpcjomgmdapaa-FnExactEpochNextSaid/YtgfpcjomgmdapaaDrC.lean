/-
Drawn epochs.
No conditions.
-/
import Derived.Test.YtgfpcjomgmdapaaDrB
import Derived.Test.YtgfpcjomgmdapaaCpA
namespace Go.Proofs.Ytgfpcjomgmdapaa
open Go Go.Vc
set_option maxHeartbeats 1000000
set_option maxRecDepth 10000
def c_spec_l91Key : Con := ⟨0, 1, false, fun xs hs _ K => match xs, hs with
  | [.ptr 0 0], [.cells [.bytes b, .val (.int .i64 off)]] =>
    b.length ≤ 2000 ∧ 0 ≤ off ∧ off ≤ 1000000 ∧ ∀ off' v, off ≤ off' → off' ≤ off + 3 → -1 ≤ v → v ≤ 1000 → K (I v) [rdO b off'] []
  | _, _ => False⟩
theorem k_spec_l91Key : Keeps' Try.prog 61 c_spec_l91Key := by
  refine keeps_of_vc mix TyT_ok (cok_cons k_spec_l6Rd_pick Try.func41 rfl rfl cok_nil) Try.func61 rfl rfl rfl ?_
  intro aargs hs Fs K h
  simp only [c_spec_l91Key] at h
  split at h
  case h_2 => exact h.elim
  rename_i b off
  obtain ⟨hb, h0, h1, h⟩ := h
  repeat' (first
    | ((conv => whnf); (first
      | refine brK_dec (fun _ => ?_) (fun _ => ?_)
      | refine brK_ndec (fun _ => ?_) (fun _ => ?_)
      | refine brK_not (fun _ => ?_) (fun _ => ?_)
      | refine brK_in (fun _ => ?_) (fun _ => ?_)
      | refine And.intro (by first | exact rfl | exact ⟨_, rfl, rfl⟩ | exact ⟨rfl, rfl, rfl⟩ | exact of_decide_eq_true rfl | exact trivial | assumption | omega | (show (_ ≤ _ ∧ _ ≤ _); omega) | (simp; omega) | exact ⟨by first | omega | (simp; omega), _, rfl, rfl⟩) ?_
      | refine Both.mk ?_ ?_
      | refine Exists.intro _ (And.intro rfl ?_)
      | refine fun _ => ?_))
    | exact rfl)
  · rename_i q hq
    have := List.mem_of_getElem? hq
    simp at this
    exact h _ _ (by omega) (by omega) (by omega) (by omega)
  · exact h _ _ (by omega) (by omega) (by omega) (by omega)
def c_spec_l91Digest : Con := ⟨0, 1, false, fun xs hs _ K => match xs, hs with
  | [.ptr 0 0], [.cells [.bytes b, .val (.int .i64 off)]] =>
    b.length ≤ 2000 ∧ 0 ≤ off ∧ off ≤ 1000000 ∧ ∀ off' v, off ≤ off' → off' ≤ off + 3 → -1 ≤ v → v ≤ 1000 → K (I v) [rdO b off'] []
  | _, _ => False⟩
theorem k_spec_l91Digest : Keeps' Try.prog 44 c_spec_l91Digest := by
  refine keeps_of_vc mix TyT_ok (cok_cons k_spec_l6Rd_pick Try.func41 rfl rfl cok_nil) Try.func44 rfl rfl rfl ?_
  intro aargs hs Fs K h
  simp only [c_spec_l91Digest] at h
  split at h
  case h_2 => exact h.elim
  rename_i b off
  obtain ⟨hb, h0, h1, h⟩ := h
  repeat' (first
    | ((conv => whnf); (first
      | refine brK_dec (fun _ => ?_) (fun _ => ?_)
      | refine brK_ndec (fun _ => ?_) (fun _ => ?_)
      | refine brK_not (fun _ => ?_) (fun _ => ?_)
      | refine brK_in (fun _ => ?_) (fun _ => ?_)
      | refine And.intro (by first | exact rfl | exact ⟨_, rfl, rfl⟩ | exact ⟨rfl, rfl, rfl⟩ | exact of_decide_eq_true rfl | exact trivial | assumption | omega | (show (_ ≤ _ ∧ _ ≤ _); omega) | (simp; omega) | exact ⟨by first | omega | (simp; omega), _, rfl, rfl⟩) ?_
      | refine Both.mk ?_ ?_
      | refine Exists.intro _ (And.intro rfl ?_)
      | refine fun _ => ?_))
    | exact rfl)
  · rename_i q hq
    have := List.mem_of_getElem? hq
    simp at this
    exact h _ _ (by omega) (by omega) (by omega) (by omega)
  · exact h _ _ (by omega) (by omega) (by omega) (by omega)
def c_spec_l92Spoilt : Con := ⟨2, 1, false, fun xs hs _ K => match xs, hs with
  | [.ptr 0 0, .agg [.val (.int .i64 _), .ints c, .ints k, .val (.int .i64 _)]], [.cells [.bytes b, .val (.int .i64 off)]] =>
    b.length ≤ 2000 ∧ 0 ≤ off ∧ off ≤ 900000 ∧ 1 ≤ c.length ∧ c.length ≤ 20 ∧ k.length = c.length ∧
      ∀ off' n' c' k' r', off ≤ off' → off' ≤ off + 10 → c'.length ≤ 20 → k'.length ≤ 21 → K (.agg [I n', .own 1, .own 2, I r']) [rdO b off', .iarr c', .iarr k'] []
  | _, _ => False⟩
theorem k_spec_l92Spoilt : Keeps' Try.prog 42 c_spec_l92Spoilt := by
  refine keeps_of_vc mix TyT_ok (cok_cons k_spec_l41Copy Try.func60 rfl rfl (cok_cons k_spec_l6Rd_pick Try.func41 rfl rfl (cok_cons k_spec_l91Key Try.func61 rfl rfl (cok_cons k_spec_l91Digest Try.func44 rfl rfl cok_nil)))) Try.func42 rfl rfl rfl ?_
  intro aargs hs Fs K h
  simp only [c_spec_l92Spoilt] at h
  split at h
  case h_2 => exact h.elim
  rename_i n c k r b off
  obtain ⟨hb, h0, h1, hc0, hc, hk, h⟩ := h
  repeat' (first
    | ((conv => whnf); (first
      | refine draw_plan (id := 7) [0] [6] (.take 0 (.take 1 (.take 2 (.take 3 (.run 4 (.take 5 (.run 6 .done))))))) (by kernel_rfl) (by kernel_rfl) ?_
      | refine draw_plan (id := 9) [0] [6] (.take 0 (.take 1 (.take 2 (.take 3 (.run 4 (.take 5 (.run 6 .done))))))) (by kernel_rfl) (by kernel_rfl) ?_
      | refine draw_plan (id := 11) [0] [8] (.take 0 (.take 1 (.take 2 (.take 3 (.take 4 (.take 5 (.take 6 (.take 7 (.run 8 .done))))))))) (by kernel_rfl) (by kernel_rfl) ?_
      | refine brK_dec (fun _ => ?_) (fun _ => ?_)
      | refine brK_ndec (fun _ => ?_) (fun _ => ?_)
      | refine brK_not (fun _ => ?_) (fun _ => ?_)
      | refine brK_in (fun _ => ?_) (fun _ => ?_)
      | refine And.intro (by first | exact rfl | exact ⟨_, rfl, rfl⟩ | exact ⟨rfl, rfl, rfl⟩ | exact of_decide_eq_true rfl | exact trivial | assumption | omega | (show (_ ≤ _ ∧ _ ≤ _); omega) | (simp; omega) | exact ⟨by first | omega | (simp; omega), _, rfl, rfl⟩) ?_
      | refine Both.mk ?_ ?_
      | refine Exists.intro _ (And.intro rfl ?_)
      | refine fun _ => ?_))
    | exact rfl)
  · exact h _ _ _ _ _ (by omega) (by omega) (by omega) (by omega)
  · exact h _ _ _ _ _ (by omega) (by omega) (by simp; omega) (by omega)
  · exact h _ _ _ _ _ (by omega) (by omega) (by omega) (by simp; omega)
  · exact h _ _ _ _ _ (by omega) (by omega) (by omega) (by simp; omega)
  · exact h _ _ _ _ _ (by omega) (by omega) (by omega) (by omega)
  · exact h _ _ _ _ _ (by omega) (by omega) (by omega) (by simp; omega)
  · exact h _ _ _ _ _ (by omega) (by omega) (by omega) (by omega)
end Go.Proofs.Ytgfpcjomgmdapaa
