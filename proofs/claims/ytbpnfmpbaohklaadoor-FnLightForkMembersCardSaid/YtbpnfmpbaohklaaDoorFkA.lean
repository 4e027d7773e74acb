/-
The laws on forks: their contracts.
No conditions.
-/
import Derived.Test.YtbpnfmpbaohklaaDoorDrJ
import Derived.Test.YtbpnfmpbaohklaaDoorFkP
import Derived.Test.YtbpnfmpbaohklaaDoorRtP
import Derived.Test.YtbpnfmpbaohklaaDoorLxD
namespace Go.Proofs.YtbpnfmpbaohklaaDoor
open Go Go.Vc
set_option maxHeartbeats 4000000
set_option maxRecDepth 10000
def c_impl_CommitteeFaults : Con := ⟨0, 0, false, fun xs hs _ K => match xs with
  | [.ints c] => hs = [] ∧ c.length < 2000000 ∧ K (I (if comV c = true then (c.sum - 1) / 3 else -1)) [] []
  | _ => False⟩
theorem com_sum {c : List Int} (h : comV c = true) : 1 ≤ c.sum := by
  simp [comV, inR] at h
  obtain ⟨h1, h2, h3⟩ := h
  cases c with
  | nil => simp at h2
  | cons x l =>
    have hx := h1 x (by simp)
    have hl := sum_bound l fun y hy => by have := h1 y (by simp [hy]); omega
    rw [List.sum_cons]
    omega
theorem k_impl_CommitteeFaults : Keeps' Tryd.prog 35 c_impl_CommitteeFaults := by
  refine keeps_of_vc mix TyT_ok (cok_cons k_impl_committee_valid Tryd.func75 rfl rfl (cok_cons k_impl_committee_faults Tryd.func76 rfl rfl cok_nil)) Tryd.func35 rfl rfl rfl ?_
  intro aargs hs Fs K h
  simp only [c_impl_CommitteeFaults] at h
  split at h
  case h_2 => exact h.elim
  rename_i c
  obtain ⟨rfl, hc, h⟩ := h
  cases hv : comV c
  · rw [hv, if_neg (by simp)] at h
    repeat' (first
      | ((conv => whnf); (first
        | refine brK_dec (fun _ => ?_) (fun _ => ?_)
        | refine brK_ndec (fun _ => ?_) (fun _ => ?_)
        | refine brK_not (fun _ => ?_) (fun _ => ?_)
        | refine brK_in (fun _ => ?_) (fun _ => ?_)
        | refine And.intro (by first | exact rfl | exact ⟨_, rfl, rfl⟩ | exact ⟨rfl, rfl, rfl⟩ | exact of_decide_eq_true rfl | exact trivial | assumption | omega | (show (_ ≤ _ ∧ _ ≤ _); omega) | (simp; omega) | exact ⟨by first | omega | (simp; omega), _, rfl, rfl⟩) ?_
        | refine Both.mk ?_ ?_
        | refine Exists.intro _ (And.intro rfl ?_)
        | refine fun _ => ?_))
      | exact rfl)
    all_goals first
      | exact h
      | (exfalso; simp_all; done)
  · obtain ⟨l1, l2, l3⟩ := com_out hv
    have l4 := com_sum hv
    rw [hv, if_pos rfl] at h
    repeat' (first
      | ((conv => whnf); (first
        | refine brK_dec (fun _ => ?_) (fun _ => ?_)
        | refine brK_ndec (fun _ => ?_) (fun _ => ?_)
        | refine brK_not (fun _ => ?_) (fun _ => ?_)
        | refine brK_in (fun _ => ?_) (fun _ => ?_)
        | refine And.intro (by first | exact rfl | exact ⟨_, rfl, rfl⟩ | exact ⟨rfl, rfl, rfl⟩ | exact of_decide_eq_true rfl | exact trivial | assumption | omega | (show (_ ≤ _ ∧ _ ≤ _); omega) | (simp; omega) | exact ⟨by first | omega | (simp; omega), _, rfl, rfl⟩) ?_
        | refine Both.mk ?_ ?_
        | refine Exists.intro _ (And.intro rfl ?_)
        | refine fun _ => ?_))
      | exact rfl)
    all_goals first
      | exact h
      | (exfalso; simp_all; done)
def forkD (e : EpD) (x y : LkD) : List Int := forkL e.n e.c e.k e.r x.e.n x.e.c x.e.k x.e.r x.d x.s x.m y.e.n y.e.c y.e.k y.e.r y.d y.s y.m
theorem forkD_len (e : EpD) (x y : LkD) : (forkD e x y).length ≤ x.s.length := by
  unfold forkD forkL
  split
  · exact List.length_filter_le _ _
  · exact Nat.zero_le _
theorem forkD_mem {e : EpD} {x y : LkD} {z : Int} (h : z ∈ forkD e x y) : z ∈ x.s ∧ z ∈ y.s := by
  unfold forkD forkL at h
  split at h
  · simpa [comL] using h
  · cases h
theorem forkD_comm (e : EpD) (x y : LkD) : forkD e y x = forkD e x y := by
  unfold forkD forkL
  by_cases h : lkD e x = true ∧ lkD e y = true ∧ x.d ≠ y.d
  · obtain ⟨h1, h2, h3⟩ := h
    have h1' := h1
    have h2' := h2
    unfold lkD at h1 h2
    rw [h1, h2, decide_eq_false h3, decide_eq_false fun q => h3 q.symm]
    simp only [Bool.not_false, Bool.and_self, if_true]
    obtain ⟨_, _, _, _, a5⟩ := lkV_out h1
    obtain ⟨_, _, _, _, b5⟩ := lkV_out h2
    exact comL_comm (certV_out b5).2.2.1 (certV_out a5).2.2.1
  · have h1 : ¬ (lkV e.n e.c e.k e.r y.e.n y.e.c y.e.k y.e.r y.d y.s y.m && (lkV e.n e.c e.k e.r x.e.n x.e.c x.e.k x.e.r x.d x.s x.m && !decide (y.d = x.d))) = true := by
      intro q
      simp only [Bool.and_eq_true, Bool.not_eq_true', decide_eq_false_iff_not] at q
      exact h ⟨q.2.1, q.1, fun w => q.2.2 w.symm⟩
    have h2 : ¬ (lkV e.n e.c e.k e.r x.e.n x.e.c x.e.k x.e.r x.d x.s x.m && (lkV e.n e.c e.k e.r y.e.n y.e.c y.e.k y.e.r y.d y.s y.m && !decide (x.d = y.d))) = true := by
      intro q
      simp only [Bool.and_eq_true, Bool.not_eq_true', decide_eq_false_iff_not] at q
      exact h ⟨q.1, q.2.1, q.2.2⟩
    rw [if_neg h1, if_neg h2]
def c_laws_FnLightFork : Con := ⟨0, 0, false, fun xs hs Fs K => match xs with
  | [.bytes b] => hs = [] ∧ hasTab Fs ∧ b.length ≤ 9223372036854775807 ∧ K (B true) [] []
  | _ => False⟩
theorem k_laws_FnLightFork : Keeps' Tryd.prog 7 c_laws_FnLightFork := by
  refine keeps_of_vc mix TyT_ok (cok_cons k_spec_DrawLightFork Tryd.func31 rfl rfl (cok_cons k_impl_LightFork Tryd.func21 rfl rfl (cok_cons k_spec_LightFork Tryd.func20 rfl rfl (cok_cons k_laws_sameInts Tryd.func32 rfl rfl (cok_cons k_impl_LinkCheck Tryd.func17 rfl rfl (cok_cons k_impl_MembersWeight Tryd.func34 rfl rfl (cok_cons k_impl_CommitteeFaults Tryd.func35 rfl rfl cok_nil))))))) Tryd.func7 rfl rfl rfl ?_
  intro aargs hs Fs K h
  simp only [c_laws_FnLightFork] at h
  split at h
  case h_2 => exact h.elim
  rename_i b
  obtain ⟨rfl, hT, hb, h⟩ := h
  repeat' (first
    | ((conv => whnf); (first
      | refine draw_plan (id := 10) [] [] (.take 0 (.take 1 (.take 2 (.take 4 (.take 5 (.run 3 (.run 6 (.take 7 (.take 8 .done))))))))) (by kernel_rfl) (by kernel_rfl) ?_
      | refine brK_dec (fun _ => ?_) (fun _ => ?_)
      | refine brK_ndec (fun _ => ?_) (fun _ => ?_)
      | refine brK_not (fun _ => ?_) (fun _ => ?_)
      | refine brK_in (fun _ => ?_) (fun _ => ?_)
      | refine And.intro (by first | exact rfl | exact (tab_app hT) | exact ⟨_, rfl, rfl⟩ | exact ⟨rfl, rfl, rfl⟩ | exact of_decide_eq_true rfl | exact trivial | assumption | omega | (show (_ ≤ _ ∧ _ ≤ _); omega) | (simp; omega) | exact ⟨by first | omega | (simp; omega), _, rfl, rfl⟩) ?_
      | refine Both.mk ?_ ?_
      | refine Exists.intro _ (And.intro rfl ?_)
      | refine fun _ => ?_))
    | exact rfl)
  all_goals first
    | exact h
    | (exfalso; simp_all; done)
    | skip
  rename_i hb2 e x y c1 k1 fx fy
  obtain ⟨fx1, fx2, fx3⟩ := fx
  obtain ⟨fy1, fy2, fy3⟩ := fy
  have hf : (forkL e.n e.c e.k e.r x.e.n x.e.c x.e.k x.e.r x.d x.s x.m y.e.n y.e.c y.e.k y.e.r y.d y.s y.m).length ≤ x.s.length := forkD_len e x y
  repeat' (first
    | ((conv => whnf); (first
      | refine draw_plan (id := 10) [] [] (.take 0 (.take 1 (.take 2 (.take 4 (.take 5 (.run 3 (.run 6 (.take 7 (.take 8 .done))))))))) (by kernel_rfl) (by kernel_rfl) ?_
      | refine brK_dec (fun _ => ?_) (fun _ => ?_)
      | refine brK_ndec (fun _ => ?_) (fun _ => ?_)
      | refine brK_not (fun _ => ?_) (fun _ => ?_)
      | refine brK_in (fun _ => ?_) (fun _ => ?_)
      | refine And.intro (by first | exact rfl | exact (tab_app hT) | exact ⟨_, rfl, rfl⟩ | exact ⟨rfl, rfl, rfl⟩ | exact of_decide_eq_true rfl | exact trivial | assumption | omega | (show (_ ≤ _ ∧ _ ≤ _); omega) | (simp; omega) | exact ⟨by first | omega | (simp; omega), _, rfl, rfl⟩) ?_
      | refine Both.mk ?_ ?_
      | refine Exists.intro _ (And.intro rfl ?_)
      | refine fun _ => ?_))
    | exact rfl)
  all_goals first
    | exact h
    | (exfalso; simp_all; done)
    | skip
  · rename_i q0 q1
    have e1 : forkL e.n e.c e.k e.r x.e.n x.e.c x.e.k x.e.r x.d x.s x.m y.e.n y.e.c y.e.k y.e.r y.d y.s y.m = [] := by rw [forkL, q1]; rfl
    rw [e1]
    exact h
  · rename_i q0 q1 q2
    have e1 : forkL e.n e.c e.k e.r x.e.n x.e.c x.e.k x.e.r x.d x.s x.m y.e.n y.e.c y.e.k y.e.r y.d y.s y.m = [] := by rw [forkL, q1, q2]; rfl
    rw [e1]
    exact h
  · rename_i q0 q1 q2 q3
    have e1 : forkL e.n e.c e.k e.r x.e.n x.e.c x.e.k x.e.r x.d x.s x.m y.e.n y.e.c y.e.k y.e.r y.d y.s y.m = [] := by rw [forkL, q1, q2, decide_eq_true q3]; rfl
    rw [e1]
    exact h
  · rename_i q0 q1 q2 q3
    have e1 : forkL e.n e.c e.k e.r x.e.n x.e.c x.e.k x.e.r x.d x.s x.m y.e.n y.e.c y.e.k y.e.r y.d y.s y.m = comL x.s y.s := by rw [forkL, q1, q2, decide_eq_false q3]; rfl
    obtain ⟨_, _, _, _, a5⟩ := lkV_out q1
    obtain ⟨_, _, _, _, b5⟩ := lkV_out q2
    obtain ⟨a6, _, a7, a8⟩ := certV_out a5
    obtain ⟨_, _, b7, b8⟩ := certV_out b5
    obtain ⟨k1, _, _, _, k5, _⟩ := keys_out a6
    have hw := fork_heavy k5 a7 b7 a8 b8
    rw [e1, k1, comL_memV a7]
    simp only [Bool.and_self, if_true]
    rw [decide_eq_true hw]
    exact h
def c_laws_FnLightForkMembers : Con := ⟨0, 0, false, fun xs hs Fs K => match xs with
  | [.bytes b] => hs = [] ∧ hasTab Fs ∧ b.length ≤ 9223372036854775807 ∧ K (B true) [] []
  | _ => False⟩
theorem k_laws_FnLightForkMembers : Keeps' Tryd.prog 6 c_laws_FnLightForkMembers := by
  refine keeps_of_vc mix TyT_ok (cok_cons k_spec_DrawLightFork Tryd.func31 rfl rfl (cok_cons k_impl_LightFork Tryd.func21 rfl rfl (cok_cons k_spec_LightFork Tryd.func20 rfl rfl (cok_cons k_laws_sameInts Tryd.func32 rfl rfl (cok_cons k_laws_hasInt Tryd.func33 rfl rfl cok_nil))))) Tryd.func6 rfl rfl rfl ?_
  intro aargs hs Fs K h
  simp only [c_laws_FnLightForkMembers] at h
  split at h
  case h_2 => exact h.elim
  rename_i b
  obtain ⟨rfl, hT, hb, h⟩ := h
  repeat' (first
    | ((conv => whnf); (first
      | refine draw_plan (id := 11) [] [] (.take 0 (.take 1 (.take 2 (.take 3 (.take 4 (.take 5 (.take 6 (.run 7 (.take 8 (.take 9 (.take 10 (.take 11 (.take 12 (.take 13 (.take 14 (.take 15 (.take 16 (.run 17 (.take 18 (.take 19 .done)))))))))))))))))))) (by kernel_rfl) (by kernel_rfl) ?_
      | refine brK_dec (fun _ => ?_) (fun _ => ?_)
      | refine brK_ndec (fun _ => ?_) (fun _ => ?_)
      | refine brK_not (fun _ => ?_) (fun _ => ?_)
      | refine brK_in (fun _ => ?_) (fun _ => ?_)
      | refine And.intro (by first | exact rfl | exact (tab_app hT) | exact ⟨_, rfl, rfl⟩ | exact ⟨rfl, rfl, rfl⟩ | exact of_decide_eq_true rfl | exact trivial | assumption | omega | (show (_ ≤ _ ∧ _ ≤ _); omega) | (simp; omega) | exact ⟨by first | omega | (simp; omega), _, rfl, rfl⟩) ?_
      | refine Both.mk ?_ ?_
      | refine Exists.intro _ (And.intro rfl ?_)
      | refine fun _ => ?_))
    | exact rfl)
  · exact h
  rename_i hb2 e x y c1 k1 fx fy
  obtain ⟨fx1, fx2, fx3⟩ := fx
  obtain ⟨fy1, fy2, fy3⟩ := fy
  have hf : (forkL e.n e.c e.k e.r x.e.n x.e.c x.e.k x.e.r x.d x.s x.m y.e.n y.e.c y.e.k y.e.r y.d y.s y.m).length ≤ x.s.length := forkD_len e x y
  have hf2 : (forkL e.n e.c e.k e.r y.e.n y.e.c y.e.k y.e.r y.d y.s y.m x.e.n x.e.c x.e.k x.e.r x.d x.s x.m).length ≤ y.s.length := forkD_len e y x
  have hcm : forkL e.n e.c e.k e.r y.e.n y.e.c y.e.k y.e.r y.d y.s y.m x.e.n x.e.c x.e.k x.e.r x.d x.s x.m = forkL e.n e.c e.k e.r x.e.n x.e.c x.e.k x.e.r x.d x.s x.m y.e.n y.e.c y.e.k y.e.r y.d y.s y.m := forkD_comm e x y
  have hmem : ∀ z, z ∈ forkL e.n e.c e.k e.r x.e.n x.e.c x.e.k x.e.r x.d x.s x.m y.e.n y.e.c y.e.k y.e.r y.d y.s y.m → z ∈ x.s ∧ z ∈ y.s := fun z => forkD_mem
  repeat' (first
    | ((conv => whnf); (first
      | refine draw_plan (id := 11) [] [] (.take 0 (.take 1 (.take 2 (.take 3 (.take 4 (.take 5 (.take 6 (.run 7 (.take 8 (.take 9 (.take 10 (.take 11 (.take 12 (.take 13 (.take 14 (.take 15 (.take 16 (.run 17 (.take 18 (.take 19 .done)))))))))))))))))))) (by kernel_rfl) (by kernel_rfl) ?_
      | refine brK_dec (fun _ => ?_) (fun _ => ?_)
      | refine brK_ndec (fun _ => ?_) (fun _ => ?_)
      | refine brK_not (fun _ => ?_) (fun _ => ?_)
      | refine brK_in (fun _ => ?_) (fun _ => ?_)
      | refine And.intro (by first | exact rfl | exact (tab_app hT) | exact ⟨_, rfl, rfl⟩ | exact ⟨rfl, rfl, rfl⟩ | exact of_decide_eq_true rfl | exact trivial | assumption | omega | (show (_ ≤ _ ∧ _ ≤ _); omega) | (simp; omega) | exact ⟨by first | omega | (simp; omega), _, rfl, rfl⟩) ?_
      | refine Both.mk ?_ ?_
      | refine Exists.intro _ (And.intro rfl ?_)
      | refine fun _ => ?_))
    | exact rfl)
  all_goals first
    | exact h
    | (exfalso; simp_all; done)
    | skip
  refine loop_in (ι := Nat) (fun i => mkS 65 [(2, B false), (3, .ptr 0 0), (4, .ptr 1 0), (5, .ptr 2 0), (6, .own 3), (8, I i)] [.cells [I e.n, .ints e.c, .ints e.k, I e.r], .cells [I x.e.n, .ints x.e.c, .ints x.e.k, I x.e.r, I x.d, .ints x.s, I x.m], .cells [I y.e.n, .ints y.e.c, .ints y.e.k, I y.e.r, I y.d, .ints y.s, I y.m],
    .iarr (forkL e.n e.c e.k e.r x.e.n x.e.c x.e.k x.e.r x.d x.s x.m y.e.n y.e.c y.e.k y.e.r y.d y.s y.m)] Fs) (fun i => i ≤ (forkL e.n e.c e.k e.r x.e.n x.e.c x.e.k x.e.r x.d x.s x.m y.e.n y.e.c y.e.k y.e.r y.d y.s y.m).length) (fun i => (forkL e.n e.c e.k e.r x.e.n x.e.c x.e.k x.e.r x.d x.s x.m y.e.n y.e.c y.e.k y.e.r y.d y.s y.m).length - i) 0 [0, 1, 2, 3] (Nat.zero_le _) ?_ ?_
  · repeat' (first
      | ((conv => whnf); (first
        | refine brK_dec (fun _ => ?_) (fun _ => ?_)
        | refine brK_ndec (fun _ => ?_) (fun _ => ?_)
        | refine brK_not (fun _ => ?_) (fun _ => ?_)
        | refine brK_in (fun _ => ?_) (fun _ => ?_)
        | refine And.intro (by first | exact rfl | exact ⟨_, rfl, rfl⟩ | exact ⟨rfl, rfl, rfl⟩ | exact of_decide_eq_true rfl | exact trivial | assumption | omega | (show (_ ≤ _ ∧ _ ≤ _); omega) | (simp; omega) | exact ⟨by first | omega | (simp; omega), _, rfl, rfl⟩) ?_
        | refine Both.mk ?_ ?_
        | refine Exists.intro _ (And.intro rfl ?_)
        | refine fun _ => ?_))
      | exact rfl)
  intro i hi
  repeat' (first
    | ((conv => whnf); (first
      | refine draw_plan (id := 11) [] [] (.take 0 (.take 1 (.take 2 (.take 3 (.take 4 (.take 5 (.take 6 (.run 7 (.take 8 (.take 9 (.take 10 (.take 11 (.take 12 (.take 13 (.take 14 (.take 15 (.take 16 (.run 17 (.take 18 (.take 19 .done)))))))))))))))))))) (by kernel_rfl) (by kernel_rfl) ?_
      | refine brK_dec (fun _ => ?_) (fun _ => ?_)
      | refine brK_ndec (fun _ => ?_) (fun _ => ?_)
      | refine brK_not (fun _ => ?_) (fun _ => ?_)
      | refine brK_in (fun _ => ?_) (fun _ => ?_)
      | refine And.intro (by first | exact rfl | exact (tab_app hT) | exact ⟨_, rfl, rfl⟩ | exact ⟨rfl, rfl, rfl⟩ | exact of_decide_eq_true rfl | exact trivial | assumption | omega | (show (_ ≤ _ ∧ _ ≤ _); omega) | (simp; omega) | exact ⟨by first | omega | (simp; omega), _, rfl, rfl⟩) ?_
      | refine Both.mk ?_ ?_
      | refine Exists.intro _ (And.intro rfl ?_)
      | refine fun _ => ?_))
    | exact rfl)
  · rename_i hil z hz hn
    exact absurd (hmem z (List.mem_of_getElem? hz)).1 hn
  · rename_i hil z hz hin z2 hz2 hn
    exact absurd (hmem z2 (List.mem_of_getElem? hz2)).2 hn
  · refine ⟨i + 1, [0, 1, 2, 3], by omega, by omega, ?_⟩
    repeat' (first
      | ((conv => whnf); (first
        | refine brK_dec (fun _ => ?_) (fun _ => ?_)
        | refine brK_ndec (fun _ => ?_) (fun _ => ?_)
        | refine brK_not (fun _ => ?_) (fun _ => ?_)
        | refine brK_in (fun _ => ?_) (fun _ => ?_)
        | refine And.intro (by first | exact rfl | exact ⟨_, rfl, rfl⟩ | exact ⟨rfl, rfl, rfl⟩ | exact of_decide_eq_true rfl | exact trivial | assumption | omega | (show (_ ≤ _ ∧ _ ≤ _); omega) | (simp; omega) | exact ⟨by first | omega | (simp; omega), _, rfl, rfl⟩) ?_
        | refine Both.mk ?_ ?_
        | refine Exists.intro _ (And.intro rfl ?_)
        | refine fun _ => ?_))
      | exact rfl)
  · rw [decide_eq_true hcm]
    exact h
end Go.Proofs.YtbpnfmpbaohklaaDoor
