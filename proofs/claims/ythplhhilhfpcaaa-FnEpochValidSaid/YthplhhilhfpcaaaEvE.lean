/-
An epoch has a committee with different keys: the contract of the law.
No conditions.
-/
import Derived.Test.YthplhhilhfpcaaaDrE
import Derived.Test.YthplhhilhfpcaaaEvB
namespace Go.Proofs.Ythplhhilhfpcaaa
open Go Go.Vc
set_option maxHeartbeats 1000000
set_option maxRecDepth 10000
def c_laws_FnEpochValid : Con := ⟨0, 0, false, fun xs hs _ K => match xs with
  | [.bytes b, .bytes j] => hs = [] ∧ b.length ≤ 9223372036854775807 ∧ j.length ≤ 9223372036854775807 ∧ K (B true) [] []
  | _ => False⟩
theorem k_laws_FnEpochValid : Keeps' Try.prog 7 c_laws_FnEpochValid := by
  refine keeps_of_vc mix TyT_ok (cok_cons k_spec_DrawEpochValid Try.func22 rfl rfl (cok_cons k_impl_EpochValid Try.func15 rfl rfl (cok_cons k_spec_EpochValid Try.func13 rfl rfl (cok_cons k_impl_CommitteeValid Try.func23 rfl rfl cok_nil)))) Try.func7 rfl rfl rfl ?_
  intro aargs hs Fs K h
  simp only [c_laws_FnEpochValid] at h
  split at h
  case h_2 => exact h.elim
  rename_i b j
  obtain ⟨rfl, hb, hj, h⟩ := h
  repeat' (first
    | ((conv => whnf); (first
      | refine draw_plan (id := 11) [] [8] (.take 0 (.take 1 (.take 2 (.take 3 (.take 4 (.take 5 (.take 6 (.take 7 (.run 8 .done))))))))) (by kernel_rfl) (by kernel_rfl) ?_
      | refine brK_dec (fun _ => ?_) (fun _ => ?_)
      | refine brK_ndec (fun _ => ?_) (fun _ => ?_)
      | refine brK_not (fun _ => ?_) (fun _ => ?_)
      | refine brK_in (fun _ => ?_) (fun _ => ?_)
      | refine And.intro (by first | exact rfl | exact ⟨_, rfl, rfl⟩ | exact ⟨rfl, rfl, rfl⟩ | exact of_decide_eq_true rfl | exact trivial | assumption | omega | (show (_ ≤ _ ∧ _ ≤ _); omega) | (simp only [List.length_take, List.length_drop, List.length_append, List.length_cons, List.length_nil, List.length_map, List.length_replicate, List.length_set]; omega) | exact ⟨by first | omega | (simp only [List.length_take, List.length_drop, List.length_append, List.length_cons, List.length_nil, List.length_map, List.length_replicate, List.length_set]; omega), _, rfl, rfl⟩) ?_
      | refine Both.mk ?_ ?_
      | refine Exists.intro _ (And.intro rfl ?_)
      | refine fun _ => ?_))
    | exact rfl)
  · exact h
  · exact h
  · rename_i e; exact absurd rfl e
  · show K (B _) [] []; simpa using h
  · show K (B _) [] []; simpa using h
  rename_i n c k r hc hk e1 he hk2
  have m1 := Int.emod_nonneg (j.length : Int) (b := (k.length : Int) - 1) (by omega)
  have m2 := Int.emod_lt_of_pos (j.length : Int) (b := (k.length : Int) - 1) (by omega)
  repeat' (first
    | ((conv => whnf); (first
      | refine draw_plan (id := 11) [] [8] (.take 0 (.take 1 (.take 2 (.take 3 (.take 4 (.take 5 (.take 6 (.take 7 (.run 8 .done))))))))) (by kernel_rfl) (by kernel_rfl) ?_
      | refine brK_dec (fun _ => ?_) (fun _ => ?_)
      | refine brK_ndec (fun _ => ?_) (fun _ => ?_)
      | refine brK_not (fun _ => ?_) (fun _ => ?_)
      | refine brK_in (fun _ => ?_) (fun _ => ?_)
      | refine And.intro (by first | exact rfl | exact ⟨_, rfl, rfl⟩ | exact ⟨rfl, rfl, rfl⟩ | exact of_decide_eq_true rfl | exact trivial | assumption | omega | (show (_ ≤ _ ∧ _ ≤ _); omega) | (simp only [List.length_take, List.length_drop, List.length_append, List.length_cons, List.length_nil, List.length_map, List.length_replicate, List.length_set]; omega) | exact ⟨by first | omega | (simp only [List.length_take, List.length_drop, List.length_append, List.length_cons, List.length_nil, List.length_map, List.length_replicate, List.length_set]; omega), _, rfl, rfl⟩) ?_
      | refine Both.mk ?_ ?_
      | refine Exists.intro _ (And.intro rfl ?_)
      | refine fun _ => ?_))
    | exact rfl)
  · rename_i x hx hcv hlen
    have hx' : k[0]? = some x := hx
    have : ¬ (k.set (1 + (j.length : Int) % ((k.length : Int) - 1)).toNat x).Nodup := by
      refine nodup_no (i := (1 + (j.length : Int) % ((k.length : Int) - 1)).toNat) (j := 0) (x := x) (by omega) ?_ ?_
      · rw [List.getElem?_set_self (by omega)]
      · rw [List.getElem?_set_ne (by omega)]; exact hx'
    have e2 : EpV n c (k.set (1 + (j.length : Int) % ((k.length : Int) - 1)).toNat x) r = false := by simp [EpV, this]
    show K (B (!EpV n c (k.set (1 + (j.length : Int) % ((k.length : Int) - 1)).toNat x) r)) [] []
    rw [e2]; exact h
  · rename_i x hx hcv hlen
    have : keysV c k = true := by simp [EpV] at he; exact he.1
    simp [keysV] at this
    omega
  · rename_i x hx hcv
    have : keysV c k = true := by simp [EpV] at he; exact he.1
    simp [keysV, hcv] at this
end Go.Proofs.Ythplhhilhfpcaaa
